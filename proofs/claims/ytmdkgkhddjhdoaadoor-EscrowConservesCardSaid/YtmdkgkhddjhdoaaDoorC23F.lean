/- The functions of the program as terms of the abstract machine, printed by wip/gen/gen.py, with marks. -/
import Derived.Test.YtmdkgkhddjhdoaaDoorC23FP0
import Derived.Test.YtmdkgkhddjhdoaaDoorJAbsCore
set_option linter.all false
namespace Go.Abs
open Go
def r20_GreatestIn.b0 : ACode := (.seq (.seq (.seq (.region false [
 ⟨some 14, .mv (.tmp 0), none, [], []⟩,
 ⟨some 15, .mv (.tmp 5), none, [], []⟩,
 ⟨some 16, .call true i_r20_Closed [(.tmp 14), (.tmp 15)], none, [], []⟩,
 ⟨some 17, .un .not (.tmp 16), none, [], []⟩])
  (.ghost (.kill [14, 15, 16])))
  (.cond (.tmp 17) .skip
  (.exit 0)))
  (.block 1 (.seq (.seq (.region false [
 ⟨some 6, .mv (.cst (.int .i64 0)), none, [], []⟩])
  (.ghost (.kill [17])))
  (.seq (.block 2 (.loop r20_GreatestIn.b1))
  (.ghost (.kill [6, 21]))))))
def r20_GreatestIn.main : ACode := (.seq (.region false [
 ⟨some 4, .alloc [.nils, (.int .i64 0)], none, [], []⟩])
  (.seq (.seq (.seq (.region false [
 ⟨some 7, .mv (.tmp 1), none, [], []⟩,
 ⟨some 8, .call true i_r20_Valid [(.tmp 7)], none, [], []⟩,
 ⟨some 9, .un .not (.tmp 8), none, [], []⟩])
  (.ghost (.kill [7, 8])))
  (.cond (.tmp 9) (.seq (.region false [
      ⟨some 10, .build [.nils, (.int .i64 0)] [(1, 1, (.cst (.int .i64 200)))], none, [], []⟩,
      ⟨none, .store 2 (.tmp 4) (.tmp 10), none, [], []⟩])
    .ret)
  .skip))
  (.seq (.seq (.region false [
 ⟨some 11, .bslice 1 0 [(.int .i64 0)] [], none, [], []⟩,
 ⟨some 12, .mv (.tmp 1), none, [], []⟩,
 ⟨some 13, .append 1 8 (.tmp 11) (.tmp 12), none, [], []⟩,
 ⟨some 5, .mv (.tmp 13), none, [], []⟩])
  (.ghost (.kill [1, 9, 11, 12, 13])))
  (.seq (.seq (.block 0 (.loop r20_GreatestIn.b0))
  (.ghost (.kill [0, 17])))
  r20_GreatestIn.c0))))
def r20_GreatestIn.k1 : List Item := [.inBlock 2, .code (.ghost (.kill [6, 21])), .inBlock 1, .inLoop r20_GreatestIn.b0, .inBlock 0, .code (.ghost (.kill [0, 17])), .code r20_GreatestIn.c0]
def r20_GreatestIn.k0 : List Item := [.inBlock 0, .code (.ghost (.kill [0, 17])), .code r20_GreatestIn.c0]
def r20_GreatestIn : AFunc := ⟨33, [.cell 4 true 2], r20_GreatestIn.main⟩
/-- chapman/chapmanref20.All -/
def r20_All.c0 : ACode := (.seq (.region false [
 ⟨some 11, .mv (.tmp 1), none, [], []⟩,
 ⟨some 0, .mv (.tmp 11), none, [], []⟩])
  .ret)
def r20_All.b0 : ACode := (.seq (.seq (.seq (.region false [
 ⟨some 4, .mv (.tmp 2), none, [], []⟩,
 ⟨some 5, .bin .lss (.tmp 4) (.cst (.int .i64 6)), none, [], []⟩])
  (.ghost (.kill [4])))
  (.cond (.tmp 5) .skip
  (.exit 0)))
  (.seq (.trunc (.block 1 (.seq (.region false [
 ⟨some 8, .mv (.tmp 1), none, [], []⟩,
 ⟨some 9, .bslice 1 1 [(.int .i64 0)] [(0, (.cst (.int .i64 999)))], none, [], []⟩,
 ⟨some 10, .append 1 8 (.tmp 8) (.tmp 9), none, [], []⟩,
 ⟨some 1, .mv (.tmp 10), none, [], []⟩])
  (.ghost (.kill [5, 8, 9, 10])))))
  (.seq (.region false [
 ⟨some 6, .mv (.tmp 2), none, [], []⟩,
 ⟨some 7, .bin .add (.tmp 6) (.cst (.int .i64 1)), none, [], []⟩,
 ⟨some 2, .mv (.tmp 7), none, [], []⟩])
  (.ghost (.kill [6, 7])))))
def r20_All.main : ACode := (.seq (.seq (.region false [
 ⟨some 0, .mv (.cst .nils), none, [], []⟩])
  (.ghost (.kill [0])))
  (.seq (.seq (.region false [
 ⟨some 3, .bslice 1 0 [(.int .i64 0)] [], none, [], []⟩,
 ⟨some 1, .mv (.tmp 3), none, [], []⟩])
  (.ghost (.kill [3])))
  (.seq (.seq (.region false [
 ⟨some 2, .mv (.cst (.int .i64 0)), none, [], []⟩])
  (.seq (.block 0 (.loop r20_All.b0))
  (.ghost (.kill [2, 5]))))
  r20_All.c0)))
def r20_All.k0 : List Item := [.inBlock 0, .code (.ghost (.kill [2, 5])), .code r20_All.c0]
def r20_All : AFunc := ⟨12, [.tmp 0], r20_All.main⟩
/-- chapman/chapmanref20.Limit -/
def r20_Limit.c0 : ACode := (.seq (.region false [
 ⟨some 27, .mv (.tmp 3), none, [], []⟩,
 ⟨some 2, .mv (.tmp 27), none, [], []⟩])
  .ret)
def r20_Limit.b0 : ACode := (.seq (.seq (.seq (.region false [
 ⟨some 6, .mv (.tmp 4), none, [], []⟩,
 ⟨some 7, .mv (.tmp 3), none, [], []⟩,
 ⟨some 8, .len .sl (.tmp 7), none, [], []⟩,
 ⟨some 9, .bin .lss (.tmp 6) (.tmp 8), none, [], []⟩,
 ⟨some 10, .mv (.tmp 9), none, [], []⟩,
 ⟨some 11, .mv (.tmp 4), (some ((some 10), true)), [], []⟩,
 ⟨some 12, .mv (.tmp 0), (some ((some 10), true)), [], []⟩,
 ⟨some 13, .len .sl (.tmp 12), (some ((some 10), true)), [], []⟩,
 ⟨some 14, .bin .lss (.tmp 11) (.tmp 13), (some ((some 10), true)), [], []⟩,
 ⟨some 15, .pick (.tmp 10) (.tmp 14) (.cst (.bool false)), none, [], []⟩])
  (.ghost (.kill [6, 7, 8, 9, 10, 11, 12, 13, 14])))
  (.cond (.tmp 15) .skip
  (.exit 0)))
  (.seq (.block 1 (.seq (.region false [
 ⟨some 18, .mv (.tmp 3), none, [], []⟩,
 ⟨some 19, .mv (.tmp 4), none, [], []⟩,
 ⟨some 20, .mv (.tmp 0), none, [], []⟩,
 ⟨some 21, .mv (.tmp 4), none, [], []⟩,
 ⟨some 22, .iaddr 1 (.tmp 20) (.tmp 21), none, [], []⟩,
 ⟨some 23, .load false 1 (.tmp 22), none, [], []⟩,
 ⟨some 24, .bin .rem (.tmp 23) (.cst (.int .u8 6)), none, [], []⟩,
 ⟨some 25, .conv .i64 (.tmp 24), none, [], []⟩,
 ⟨some 26, .iaddr 1 (.tmp 18) (.tmp 19), none, [], []⟩,
 ⟨none, .store 1 (.tmp 26) (.tmp 25), none, [], []⟩])
  (.ghost (.kill [15, 18, 19, 20, 21, 22, 23, 24, 25, 26]))))
  (.seq (.region false [
 ⟨some 16, .mv (.tmp 4), none, [], []⟩,
 ⟨some 17, .bin .add (.tmp 16) (.cst (.int .i64 1)), none, [], []⟩,
 ⟨some 4, .mv (.tmp 17), none, [], []⟩])
  (.ghost (.kill [16, 17])))))
def r20_Limit.main : ACode := (.seq (.seq (.region false [
 ⟨some 2, .mv (.cst .nils), none, [], []⟩])
  (.ghost (.kill [2])))
  (.seq (.seq (.region false [
 ⟨some 5, .call false i_r20_Zero [], none, [], []⟩,
 ⟨some 3, .mv (.tmp 5), none, [], []⟩])
  (.ghost (.kill [5])))
  (.seq (.seq (.region false [
 ⟨some 4, .mv (.cst (.int .i64 0)), none, [], []⟩])
  (.seq (.block 0 (.loop r20_Limit.b0))
  (.ghost (.kill [0, 4, 15]))))
  r20_Limit.c0)))
def r20_Limit.k0 : List Item := [.inBlock 0, .code (.ghost (.kill [0, 4, 15])), .code r20_Limit.c0]
def r20_Limit : AFunc := ⟨28, [.tmp 2], r20_Limit.main⟩
/-- chapman/cut.Closed -/
def cut_Closed.main : ACode := (.seq (.seq (.region false [
 ⟨some 4, .mv (.cst (.bool false)), none, [], []⟩])
  (.ghost (.kill [4])))
  (.seq (.seq (.seq (.region false [
 ⟨some 6, .mv (.tmp 1), none, [], []⟩,
 ⟨some 7, .call true i_cut_Valid [(.tmp 6)], none, [], []⟩,
 ⟨some 8, .un .not (.tmp 7), none, [], []⟩])
  (.ghost (.kill [6, 7])))
  (.cond (.tmp 8) (.seq (.region false [
      ⟨some 4, .mv (.cst (.bool false)), none, [], []⟩])
    .ret)
  .skip))
  (.seq (.seq (.region false [
 ⟨some 9, .mv (.tmp 1), none, [], []⟩,
 ⟨some 10, .call false i_slices_Clone_int [(.tmp 9)], none, [], []⟩,
 ⟨some 5, .mv (.tmp 10), none, [], []⟩])
  (.ghost (.kill [8, 9, 10])))
  (.seq (.seq (.region false [
 ⟨some 11, .mv (.tmp 0), none, [], []⟩,
 ⟨some 12, .mv (.tmp 5), none, [], []⟩,
 ⟨some 13, .call false i_cut_reach [(.tmp 11), (.tmp 12)], none, [], []⟩])
  (.ghost (.kill [0, 11, 12, 13])))
  (.seq (.region false [
 ⟨some 14, .mv (.tmp 5), none, [], []⟩,
 ⟨some 15, .mv (.tmp 1), none, [], []⟩,
 ⟨some 16, .call true i_slices_Equal_int [(.tmp 14), (.tmp 15)], none, [], []⟩,
 ⟨some 4, .mv (.tmp 16), none, [], []⟩])
  .ret)))))
def cut_Closed : AFunc := ⟨17, [.tmp 4], cut_Closed.main⟩
/-- chapman/cut.indices -/
def cut_indices.c0 : ACode := (.seq (.region false [
 ⟨some 30, .mv (.tmp 3), none, [], []⟩,
 ⟨some 2, .mv (.tmp 30), none, [], []⟩])
  .ret)
def cut_indices.c1 : ACode := (.ghost (.kill [9, 10, 11, 12]))
def cut_indices.c2 : ACode := (.seq (.region false [
 ⟨some 29, .bin .add (.tmp 11) (.cst (.int .i64 1)), none, [], []⟩,
 ⟨some 11, .mv (.tmp 29), none, [], []⟩])
  (.ghost (.kill [29])))
def cut_indices.b0 : ACode := (.seq (.region false [
 ⟨some 12, .bin .lss (.tmp 11) (.tmp 10), none, [], []⟩])
  (.seq (.cond (.tmp 12) .skip
  (.exit 0))
  (.seq (.trunc (.block 1 (.seq (.seq (.region false [
 ⟨some 13, .mv (.tmp 11), none, [], []⟩,
 ⟨some 14, .iaddr 5 (.tmp 9) (.tmp 11), none, [], []⟩,
 ⟨some 15, .load true 5 (.tmp 14), none, [], []⟩,
 ⟨some 5, .alloc [(.int .i64 0), (.int .i64 0), .nils, (.int .i64 0), .nils], none, [], []⟩,
 ⟨some 4, .mv (.tmp 13), none, [], []⟩,
 ⟨none, .store 5 (.tmp 5) (.tmp 15), none, [], []⟩])
  (.ghost (.kill [12, 13, 14, 15])))
  (.seq (.seq (.region false [
 ⟨some 17, .mv (.tmp 3), none, [], []⟩,
 ⟨some 18, .faddr 0 (.tmp 5), none, [], []⟩,
 ⟨some 19, .load true 2 (.tmp 18), none, [], []⟩,
 ⟨some 20, .lookup (.row [(0, 1, false, (.int .i64)), (1, 1, false, (.int .i64))]) (.int .i64 0) true (.tmp 17) (.tmp 19), none, [], []⟩,
 ⟨some 16, .mv (.tmp 20), none, [], []⟩,
 ⟨some 21, .extr (.tmp 16) 0, none, [], []⟩,
 ⟨some 22, .extr (.tmp 16) 1, none, [], []⟩,
 ⟨some 6, .mv (.tmp 21), none, [], []⟩,
 ⟨some 7, .mv (.tmp 22), none, [], []⟩])
  (.ghost (.kill [6, 16, 17, 18, 19, 20, 21, 22])))
  (.seq (.seq (.region false [
 ⟨some 23, .mv (.tmp 7), none, [], []⟩,
 ⟨some 24, .un .not (.tmp 23), none, [], []⟩])
  (.ghost (.kill [7, 23])))
  (.seq (.cond (.tmp 24) (.seq (.region false [
      ⟨some 25, .mv (.tmp 3), none, [], []⟩,
      ⟨some 26, .faddr 0 (.tmp 5), none, [], []⟩,
      ⟨some 27, .load true 2 (.tmp 26), none, [], []⟩,
      ⟨some 28, .mv (.tmp 4), none, [], []⟩,
      ⟨none, .mapup (.row [(0, 1, false, (.int .i64)), (1, 1, false, (.int .i64))]) (.tmp 25) (.tmp 27) (.tmp 28), none, [], []⟩])
    (.ghost (.kill [4, 5, 24, 25, 26, 27, 28])))
  .skip)
  (.ghost (.kill [4, 5, 24]))))))))
  cut_indices.c2)))
def cut_indices.main : ACode := (.seq (.seq (.region false [
 ⟨some 2, .mv (.cst .nilm), none, [], []⟩])
  (.ghost (.kill [2])))
  (.seq (.seq (.region false [
 ⟨some 8, .mkmap, none, [], []⟩,
 ⟨some 3, .mv (.tmp 8), none, [], []⟩])
  (.ghost (.kill [8])))
  (.seq (.seq (.seq (.region false [
 ⟨some 9, .mv (.tmp 0), none, [], []⟩,
 ⟨some 10, .len .sl (.tmp 9), none, [], []⟩,
 ⟨some 11, .mv (.cst (.int .i64 0)), none, [], []⟩])
  (.ghost (.kill [0])))
  (.seq (.block 0 (.loop cut_indices.b0))
  cut_indices.c1))
  cut_indices.c0)))
def cut_indices.k0 : List Item := [.inBlock 0, .code cut_indices.c1, .code cut_indices.c0]
def cut_indices : AFunc := ⟨31, [.tmp 2], cut_indices.main⟩
/-- slices.SortFunc[[]int,int] -/
def slices_SortFunc_int.main : ACode := (.seq (.seq (.region false [
 ⟨some 5, .mv (.tmp 0), none, [], []⟩,
 ⟨some 6, .len .sl (.tmp 5), none, [], []⟩,
 ⟨some 4, .mv (.tmp 6), none, [], []⟩])
  (.ghost (.kill [5, 6])))
  (.seq (.region false [
 ⟨some 7, .mv (.tmp 0), none, [], []⟩,
 ⟨some 8, .mv (.tmp 4), none, [], []⟩,
 ⟨some 9, .mv (.tmp 4), none, [], []⟩,
 ⟨some 10, .conv .u64 (.tmp 9), none, [], []⟩,
 ⟨some 11, .call true i_bits_Len [(.tmp 10)], none, [], []⟩,
 ⟨some 12, .mv (.tmp 1), none, [], []⟩,
 ⟨some 13, .call false i_slices_pdqsortCmpFunc_int [(.tmp 7), (.cst (.int .i64 0)), (.tmp 8), (.tmp 11), (.tmp 12)], none, [], []⟩])
  (.ghost (.kill [0, 1, 4, 7, 8, 9, 10, 11, 12, 13]))))
def slices_SortFunc_int : AFunc := ⟨14, [], slices_SortFunc_int.main⟩
/-- chapman/cut.Order$1 -/
def cut_Order_1.main : ACode := (.seq (.seq (.region false [
 ⟨some 5, .mv (.cst (.int .i64 0)), none, [], []⟩])
  (.ghost (.kill [5])))
  (.seq (.region true [
 ⟨some 6, .load false 1 (.tmp 2), none, [], [2]⟩,
 ⟨some 7, .mv (.tmp 0), none, [], [0]⟩,
 ⟨some 8, .iaddr 5 (.tmp 6) (.tmp 7), none, [0, 1], [6, 7]⟩,
 ⟨some 9, .load true 5 (.tmp 8), none, [2], [8]⟩,
 ⟨some 10, .load false 1 (.tmp 2), none, [], [2]⟩,
 ⟨some 11, .mv (.tmp 1), none, [], [1]⟩,
 ⟨some 12, .iaddr 5 (.tmp 10) (.tmp 11), none, [4, 5], [10, 11]⟩,
 ⟨some 13, .load true 5 (.tmp 12), none, [6], [12]⟩,
 ⟨some 14, .call true i_cut_compare [(.tmp 9), (.tmp 13)], none, [3, 7], [9, 13]⟩,
 ⟨some 5, .mv (.tmp 14), none, [8, 8, 0, 1, 2, 3, 4, 5, 6, 7, 8], [14]⟩])
  .ret))
def cut_Order_1 : AFunc := ⟨15, [.tmp 5], cut_Order_1.main⟩
/-- chapman/cut.compare -/
def cut_compare.main : ACode := (.seq (.seq (.region false [
 ⟨some 2, .box 5 (.tmp 0), none, [], []⟩,
 ⟨some 3, .box 5 (.tmp 1), none, [], []⟩,
 ⟨some 4, .mv (.cst (.int .i64 0)), none, [], []⟩])
  (.ghost (.kill [0, 1, 4])))
  (.seq (.region true [
 ⟨some 5, .load true 5 (.tmp 2), none, [], [2]⟩,
 ⟨some 6, .call true i_cut_weight [(.tmp 5)], none, [0], [5]⟩,
 ⟨some 7, .load true 5 (.tmp 3), none, [], [3]⟩,
 ⟨some 8, .call true i_cut_weight [(.tmp 7)], none, [2, 1], [7]⟩,
 ⟨some 9, .call true i_cmp_Compare_int [(.tmp 6), (.tmp 8)], none, [1, 3, 3], [6, 8]⟩,
 ⟨some 10, .faddr 0 (.tmp 2), none, [], [2]⟩,
 ⟨some 11, .faddr 0 (.tmp 10), none, [5], [10]⟩,
 ⟨some 12, .load false 1 (.tmp 11), none, [6], [11]⟩,
 ⟨some 13, .faddr 0 (.tmp 3), none, [], [3]⟩,
 ⟨some 14, .faddr 0 (.tmp 13), none, [8], [13]⟩,
 ⟨some 15, .load false 1 (.tmp 14), none, [9], [14]⟩,
 ⟨some 16, .call true i_cmp_Compare_int [(.tmp 12), (.tmp 15)], none, [7, 10, 4], [12, 15]⟩,
 ⟨some 17, .faddr 0 (.tmp 2), none, [], [2]⟩,
 ⟨some 18, .faddr 1 (.tmp 17), none, [12], [17]⟩,
 ⟨some 19, .load false 1 (.tmp 18), none, [13], [18]⟩,
 ⟨some 20, .faddr 0 (.tmp 3), none, [], [3]⟩,
 ⟨some 21, .faddr 1 (.tmp 20), none, [15], [20]⟩,
 ⟨some 22, .load false 1 (.tmp 21), none, [16], [21]⟩,
 ⟨some 23, .call true i_cmp_Compare_int [(.tmp 19), (.tmp 22)], none, [14, 17, 11], [19, 22]⟩,
 ⟨some 24, .bslice 1 3 [(.int .i64 0)] [(0, (.tmp 9)), (1, (.tmp 16)), (2, (.tmp 23))], none, [4, 11, 18], [9, 16, 23]⟩,
 ⟨some 25, .call true i_cmp_Or_int [(.tmp 24)], none, [19, 18], [24]⟩,
 ⟨some 4, .mv (.tmp 25), none, [20, 20, 0, 1, 2, 3, 4, 5, 6, 7, 8, 9, 10, 11, 12, 13, 14, 15, 16, 17, 18, 19, 20], [25]⟩])
  .ret))
def cut_compare : AFunc := ⟨26, [.tmp 4], cut_compare.main⟩
/-- chapman/cut.Valid -/
def cut_Valid.main : ACode := (.seq (.seq (.region false [
 ⟨some 2, .mv (.cst (.bool false)), none, [], []⟩])
  (.ghost (.kill [2])))
  (.seq (.region false [
 ⟨some 3, .mv (.tmp 0), none, [], []⟩,
 ⟨some 4, .len .sl (.tmp 3), none, [], []⟩,
 ⟨some 5, .bin .eql (.tmp 4) (.cst (.int .i64 6)), none, [], []⟩,
 ⟨some 6, .mv (.tmp 5), none, [], []⟩,
 ⟨some 7, .mv (.tmp 0), (some ((some 6), true)), [], []⟩,
 ⟨some 8, .call true i_slices_ContainsFunc_int [(.tmp 7), (.cst (.clo (.func i_cut_Valid_1) [] []))], (some ((some 6), true)), [], []⟩,
 ⟨some 9, .un .not (.tmp 8), (some ((some 6), true)), [], []⟩,
 ⟨some 10, .pick (.tmp 6) (.tmp 9) (.cst (.bool false)), none, [], []⟩,
 ⟨some 2, .mv (.tmp 10), none, [], []⟩])
  .ret))
def cut_Valid : AFunc := ⟨11, [.tmp 2], cut_Valid.main⟩
/-- chapman/chapmanref20.Sees -/
def r20_Sees.main : ACode := (.seq (.seq (.region false [
 ⟨some 2, .box 5 (.tmp 0), none, [], []⟩,
 ⟨some 3, .box 5 (.tmp 1), none, [], []⟩,
 ⟨some 4, .mv (.cst (.bool false)), none, [], []⟩])
  (.ghost (.kill [0, 1, 4])))
  (.seq (.region true [
 ⟨some 5, .load true 5 (.tmp 2), none, [], [2]⟩,
 ⟨some 6, .call true i_r20_WellFormed [(.tmp 5)], none, [0], [5]⟩,
 ⟨some 7, .mv (.tmp 6), none, [1, 1], [6]⟩,
 ⟨some 8, .load true 5 (.tmp 3), (some ((some 7), true)), [2], [3]⟩,
 ⟨some 9, .call true i_r20_WellFormed [(.tmp 8)], (some ((some 7), true)), [3, 2, 2], [8]⟩,
 ⟨some 10, .pick (.tmp 7) (.tmp 9) (.cst (.bool false)), none, [2, 4], [7, 9]⟩,
 ⟨some 11, .mv (.tmp 10), none, [5, 4], [10]⟩,
 ⟨some 12, .faddr 0 (.tmp 3), (some ((some 11), true)), [6], [3]⟩,
 ⟨some 13, .faddr 1 (.tmp 12), (some ((some 11), true)), [7, 6], [12]⟩,
 ⟨some 14, .load false 1 (.tmp 13), (some ((some 11), true)), [8, 6], [13]⟩,
 ⟨some 15, .faddr 2 (.tmp 2), (some ((some 11), true)), [6], [2]⟩,
 ⟨some 16, .load false 1 (.tmp 15), (some ((some 11), true)), [10, 6], [15]⟩,
 ⟨some 17, .faddr 0 (.tmp 3), (some ((some 11), true)), [6], [3]⟩,
 ⟨some 18, .faddr 0 (.tmp 17), (some ((some 11), true)), [12, 6], [17]⟩,
 ⟨some 19, .load false 1 (.tmp 18), (some ((some 11), true)), [13, 6], [18]⟩,
 ⟨some 20, .iaddr 1 (.tmp 16) (.tmp 19), (some ((some 11), true)), [11, 14, 6], [16, 19]⟩,
 ⟨some 21, .load false 1 (.tmp 20), (some ((some 11), true)), [15, 6], [20]⟩,
 ⟨some 22, .bin .leq (.tmp 14) (.tmp 21), (some ((some 11), true)), [9, 16, 6], [14, 21]⟩,
 ⟨some 23, .pick (.tmp 11) (.tmp 22) (.cst (.bool false)), none, [6, 17], [11, 22]⟩,
 ⟨some 4, .mv (.tmp 23), none, [18, 6, 0, 1, 2, 3, 4, 5, 6, 7, 8, 9, 10, 11, 12, 13, 14, 15, 16, 17, 18], [23]⟩])
  .ret))
def r20_Sees : AFunc := ⟨24, [.tmp 4], r20_Sees.main⟩
/-- chapman/chapmanref20.Valid -/
def r20_Valid.c0 : ACode := (.seq (.region false [
 ⟨some 2, .mv (.cst (.bool true)), none, [], []⟩])
  .ret)
def r20_Valid.b0 : ACode := (.seq (.seq (.seq (.region false [
 ⟨some 7, .mv (.tmp 3), none, [], []⟩,
 ⟨some 8, .mv (.tmp 0), none, [], []⟩,
 ⟨some 9, .len .sl (.tmp 8), none, [], []⟩,
 ⟨some 10, .bin .lss (.tmp 7) (.tmp 9), none, [], []⟩])
  (.ghost (.kill [7, 8, 9])))
  (.cond (.tmp 10) .skip
  (.exit 0)))
  (.seq (.seq (.block 1 (.seq (.seq (.region false [
 ⟨some 13, .mv (.tmp 0), none, [], []⟩,
 ⟨some 14, .mv (.tmp 3), none, [], []⟩,
 ⟨some 15, .iaddr 1 (.tmp 13) (.tmp 14), none, [], []⟩,
 ⟨some 16, .load false 1 (.tmp 15), none, [], []⟩,
 ⟨some 17, .bin .lss (.tmp 16) (.cst (.int .i64 0)), none, [], []⟩,
 ⟨some 18, .mv (.tmp 17), none, [], []⟩,
 ⟨some 19, .mv (.tmp 0), (some ((some 18), false)), [], []⟩,
 ⟨some 20, .mv (.tmp 3), (some ((some 18), false)), [], []⟩,
 ⟨some 21, .iaddr 1 (.tmp 19) (.tmp 20), (some ((some 18), false)), [], []⟩,
 ⟨some 22, .load false 1 (.tmp 21), (some ((some 18), false)), [], []⟩,
 ⟨some 23, .bin .gtr (.tmp 22) (.cst (.int .i64 999)), (some ((some 18), false)), [], []⟩,
 ⟨some 24, .pick (.tmp 18) (.cst (.bool true)) (.tmp 23), none, [], []⟩])
  (.ghost (.kill [10, 13, 14, 15, 16, 17, 18, 19, 20, 21, 22, 23])))
  (.cond (.tmp 24) (.seq (.region false [
      ⟨some 2, .mv (.cst (.bool false)), none, [], []⟩])
    .ret)
  .skip)))
  (.ghost (.kill [24])))
  (.seq (.region false [
 ⟨some 11, .mv (.tmp 3), none, [], []⟩,
 ⟨some 12, .bin .add (.tmp 11) (.cst (.int .i64 1)), none, [], []⟩,
 ⟨some 3, .mv (.tmp 12), none, [], []⟩])
  (.ghost (.kill [11, 12])))))
def r20_Valid.main : ACode := (.seq (.seq (.region false [
 ⟨some 2, .mv (.cst (.bool false)), none, [], []⟩])
  (.ghost (.kill [2])))
  (.seq (.seq (.seq (.region false [
 ⟨some 4, .mv (.tmp 0), none, [], []⟩,
 ⟨some 5, .len .sl (.tmp 4), none, [], []⟩,
 ⟨some 6, .bin .neq (.tmp 5) (.cst (.int .i64 6)), none, [], []⟩])
  (.ghost (.kill [4, 5])))
  (.cond (.tmp 6) (.seq (.region false [
      ⟨some 2, .mv (.cst (.bool false)), none, [], []⟩])
    .ret)
  .skip))
  (.seq (.seq (.seq (.region false [
 ⟨some 3, .mv (.cst (.int .i64 0)), none, [], []⟩])
  (.ghost (.kill [6])))
  (.seq (.block 0 (.loop r20_Valid.b0))
  (.ghost (.kill [0, 3, 10]))))
  r20_Valid.c0)))
def r20_Valid.k0 : List Item := [.inBlock 0, .code (.ghost (.kill [0, 3, 10])), .code r20_Valid.c0]
def r20_Valid : AFunc := ⟨25, [.tmp 2], r20_Valid.main⟩
/-- chapman/escrow.station -/
def escrow_station.main : ACode := (.seq (.seq (.region false [
 ⟨some 2, .mv (.cst (.bool false)), none, [], []⟩])
  (.ghost (.kill [2])))
  (.seq (.region false [
 ⟨some 3, .mv (.tmp 0), none, [], []⟩,
 ⟨some 4, .bin .geq (.tmp 3) (.cst (.int .i64 0)), none, [], []⟩,
 ⟨some 5, .mv (.tmp 4), none, [], []⟩,
 ⟨some 6, .mv (.tmp 0), (some ((some 5), true)), [], []⟩,
 ⟨some 7, .bin .lss (.tmp 6) (.cst (.int .i64 6)), (some ((some 5), true)), [], []⟩,
 ⟨some 8, .pick (.tmp 5) (.tmp 7) (.cst (.bool false)), none, [], []⟩,
 ⟨some 2, .mv (.tmp 8), none, [], []⟩])
  .ret))
def escrow_station : AFunc := ⟨9, [.tmp 2], escrow_station.main⟩
/-- chapman/escrow.try -/
def escrow_try.main : ACode := (.seq (.seq (.region false [
 ⟨some 4, .mv (.cst .nils), none, [], []⟩,
 ⟨some 5, .mv (.cst (.int .i64 0)), none, [], []⟩])
  (.ghost (.kill [4, 5])))
  (.seq (.seq (.seq (.region false [
 ⟨some 7, .mv (.tmp 0), none, [], []⟩,
 ⟨some 8, .call true i_escrow_Valid [(.tmp 7)], none, [], []⟩,
 ⟨some 9, .un .not (.tmp 8), none, [], []⟩])
  (.ghost (.kill [7, 8])))
  (.cond (.tmp 9) (.seq (.region false [
      ⟨some 4, .mv (.cst .nils), none, [], []⟩,
      ⟨some 5, .mv (.cst (.int .i64 230)), none, [], []⟩])
    .ret)
  .skip))
  (.seq (.seq (.region false [
 ⟨some 10, .mv (.tmp 0), none, [], []⟩,
 ⟨some 11, .arrp 6 1 (.tmp 10), none, [], []⟩,
 ⟨some 12, .load true 6 (.tmp 11), none, [], []⟩,
 ⟨some 6, .alloc [(.int .i64 0), (.int .i64 0), (.int .i64 0), (.int .i64 0), (.int .i64 0), (.int .i64 0)], none, [], []⟩,
 ⟨none, .store 6 (.tmp 6) (.tmp 12), none, [], []⟩])
  (.ghost (.kill [0, 9, 10, 11, 12])))
  (.seq (.seq (.seq (.region false [
 ⟨some 13, .mv (.tmp 1), none, [], []⟩,
 ⟨some 14, .callv false (.tmp 13) [(.tmp 6)], none, [], []⟩,
 ⟨some 15, .un .not (.tmp 14), none, [], []⟩])
  (.ghost (.kill [1, 13, 14])))
  (.cond (.tmp 15) (.seq (.region false [
      ⟨some 4, .mv (.cst .nils), none, [], []⟩,
      ⟨some 5, .mv (.cst (.int .i64 230)), none, [], []⟩])
    .ret)
  .skip))
  (.seq (.region false [
 ⟨some 16, .slarr 6 1 (.tmp 6) none none, none, [], []⟩,
 ⟨some 4, .mv (.tmp 16), none, [], []⟩,
 ⟨some 5, .mv (.cst (.int .i64 0)), none, [], []⟩])
  .ret)))))
def escrow_try : AFunc := ⟨17, [.tmp 4, .tmp 5], escrow_try.main⟩
/-- chapman/escrow.Take$1 -/
def escrow_Take_1.main : ACode := (.seq (.seq (.region false [
 ⟨some 4, .mv (.cst (.bool false)), none, [], []⟩])
  (.ghost (.kill [4])))
  (.seq (.region false [
 ⟨some 5, .mv (.tmp 0), none, [], []⟩,
 ⟨some 6, .load false 1 (.tmp 1), none, [], []⟩,
 ⟨some 7, .load false 1 (.tmp 2), none, [], []⟩,
 ⟨some 8, .call false i_escrow_stock_take [(.tmp 5), (.tmp 6), (.cst (.int .i64 0)), (.tmp 7)], none, [], []⟩,
 ⟨some 4, .mv (.tmp 8), none, [], []⟩])
  .ret))
def escrow_Take_1 : AFunc := ⟨9, [.tmp 4], escrow_Take_1.main⟩
/-- (*chapman/escrow.stock).take -/
def escrow_stock_take.main : ACode := (.seq (.seq (.region false [
 ⟨some 8, .mv (.cst (.bool false)), none, [], []⟩])
  (.ghost (.kill [2, 8])))
  (.seq (.seq (.seq (.region false [
 ⟨some 9, .mv (.tmp 1), none, [], []⟩,
 ⟨some 10, .call true i_escrow_station [(.tmp 9)], none, [], []⟩,
 ⟨some 11, .un .not (.tmp 10), none, [], []⟩,
 ⟨some 12, .mv (.tmp 11), none, [], []⟩,
 ⟨some 13, .mv (.tmp 3), (some ((some 12), false)), [], []⟩,
 ⟨some 14, .bin .lss (.tmp 13) (.cst (.int .i64 1)), (some ((some 12), false)), [], []⟩,
 ⟨some 15, .pick (.tmp 12) (.cst (.bool true)) (.tmp 14), none, [], []⟩,
 ⟨some 16, .mv (.tmp 15), none, [], []⟩,
 ⟨some 17, .mv (.tmp 3), (some ((some 16), false)), [], []⟩,
 ⟨some 18, .mv (.tmp 0), (some ((some 16), false)), [], []⟩,
 ⟨some 19, .mv (.tmp 1), (some ((some 16), false)), [], []⟩,
 ⟨some 20, .nilck (.tmp 18), (some ((some 16), false)), [], []⟩,
 ⟨some 21, .iaddrA 6 1 (.tmp 20) (.tmp 19), (some ((some 16), false)), [], []⟩,
 ⟨some 22, .load false 1 (.tmp 21), (some ((some 16), false)), [], []⟩,
 ⟨some 23, .bin .gtr (.tmp 17) (.tmp 22), (some ((some 16), false)), [], []⟩,
 ⟨some 24, .pick (.tmp 16) (.cst (.bool true)) (.tmp 23), none, [], []⟩])
  (.ghost (.kill [9, 10, 11, 12, 13, 14, 15, 16, 17, 18, 19, 20, 21, 22, 23])))
  (.cond (.tmp 24) (.seq (.region false [
      ⟨some 8, .mv (.cst (.bool false)), none, [], []⟩])
    .ret)
  .skip))
  (.seq (.seq (.region true [
 ⟨some 25, .mv (.tmp 0), none, [], [0]⟩,
 ⟨some 26, .mv (.tmp 1), none, [], [1]⟩,
 ⟨some 27, .nilck (.tmp 25), none, [0], [25]⟩,
 ⟨some 28, .iaddrA 6 1 (.tmp 27) (.tmp 26), none, [2, 1], [27, 26]⟩,
 ⟨some 29, .load false 1 (.tmp 28), none, [3], [28]⟩,
 ⟨some 30, .mv (.tmp 3), none, [], [3]⟩,
 ⟨some 31, .bin .sub (.tmp 29) (.tmp 30), none, [4, 5], [29, 30]⟩,
 ⟨some 32, .nilck (.tmp 25), none, [0], [25]⟩,
 ⟨some 33, .iaddrA 6 1 (.tmp 32) (.tmp 26), none, [7, 1, 0, 1, 2, 3, 4, 5, 6], [32, 26]⟩,
 ⟨none, .store 1 (.tmp 33) (.tmp 31), none, [8, 6, 0, 1, 2, 3, 4, 5, 6], [33, 31]⟩])
  (.ghost (.kill [0, 1, 3, 24, 25, 26, 27, 28, 29, 30, 31, 32, 33])))
  (.seq (.region false [
 ⟨some 8, .mv (.cst (.bool true)), none, [], []⟩])
  .ret))))
def escrow_stock_take : AFunc := ⟨34, [.tmp 8], escrow_stock_take.main⟩
/-- chapman/escrow.Grant$1 -/
def escrow_Grant_1.main : ACode := (.seq (.seq (.region false [
 ⟨some 5, .mv (.cst (.bool false)), none, [], []⟩])
  (.ghost (.kill [5])))
  (.seq (.region false [
 ⟨some 6, .mv (.tmp 0), none, [], []⟩,
 ⟨some 7, .load false 1 (.tmp 1), none, [], []⟩,
 ⟨some 8, .load false 1 (.tmp 2), none, [], []⟩,
 ⟨some 9, .load false 1 (.tmp 3), none, [], []⟩,
 ⟨some 10, .call false i_escrow_stock_grant [(.tmp 6), (.tmp 7), (.tmp 8), (.tmp 9)], none, [], []⟩,
 ⟨some 5, .mv (.tmp 10), none, [], []⟩])
  .ret))
def escrow_Grant_1 : AFunc := ⟨11, [.tmp 5], escrow_Grant_1.main⟩
/-- (*chapman/escrow.stock).grant -/
def escrow_stock_grant.main : ACode := (.seq (.seq (.region false [
 ⟨some 8, .mv (.cst (.bool false)), none, [], []⟩])
  (.ghost (.kill [8])))
  (.seq (.seq (.seq (.region false [
 ⟨some 9, .mv (.tmp 2), none, [], []⟩,
 ⟨some 10, .call true i_escrow_station [(.tmp 9)], none, [], []⟩,
 ⟨some 11, .un .not (.tmp 10), none, [], []⟩,
 ⟨some 12, .mv (.tmp 11), none, [], []⟩,
 ⟨some 13, .mv (.tmp 2), (some ((some 12), false)), [], []⟩,
 ⟨some 14, .mv (.tmp 1), (some ((some 12), false)), [], []⟩,
 ⟨some 15, .bin .eql (.tmp 13) (.tmp 14), (some ((some 12), false)), [], []⟩,
 ⟨some 16, .pick (.tmp 12) (.cst (.bool true)) (.tmp 15), none, [], []⟩,
 ⟨some 17, .mv (.tmp 16), none, [], []⟩,
 ⟨some 18, .mv (.tmp 0), (some ((some 17), false)), [], []⟩,
 ⟨some 19, .mv (.tmp 1), (some ((some 17), false)), [], []⟩,
 ⟨some 20, .mv (.tmp 2), (some ((some 17), false)), [], []⟩,
 ⟨some 21, .mv (.tmp 3), (some ((some 17), false)), [], []⟩,
 ⟨some 22, .call false i_escrow_stock_take [(.tmp 18), (.tmp 19), (.tmp 20), (.tmp 21)], (some ((some 17), false)), [], []⟩,
 ⟨some 23, .un .not (.tmp 22), (some ((some 17), false)), [], []⟩,
 ⟨some 24, .pick (.tmp 17) (.cst (.bool true)) (.tmp 23), none, [], []⟩])
  (.ghost (.kill [1, 9, 10, 11, 12, 13, 14, 15, 16, 17, 18, 19, 20, 21, 22, 23])))
  (.cond (.tmp 24) (.seq (.region false [
      ⟨some 8, .mv (.cst (.bool false)), none, [], []⟩])
    .ret)
  .skip))
  (.seq (.seq (.region true [
 ⟨some 25, .mv (.tmp 0), none, [], [0]⟩,
 ⟨some 26, .mv (.tmp 2), none, [], [2]⟩,
 ⟨some 27, .nilck (.tmp 25), none, [0], [25]⟩,
 ⟨some 28, .iaddrA 6 1 (.tmp 27) (.tmp 26), none, [2, 1], [27, 26]⟩,
 ⟨some 29, .load false 1 (.tmp 28), none, [3], [28]⟩,
 ⟨some 30, .mv (.tmp 3), none, [], [3]⟩,
 ⟨some 31, .bin .add (.tmp 29) (.tmp 30), none, [4, 5], [29, 30]⟩,
 ⟨some 32, .nilck (.tmp 25), none, [0], [25]⟩,
 ⟨some 33, .iaddrA 6 1 (.tmp 32) (.tmp 26), none, [7, 1, 0, 1, 2, 3, 4, 5, 6], [32, 26]⟩,
 ⟨none, .store 1 (.tmp 33) (.tmp 31), none, [8, 6, 0, 1, 2, 3, 4, 5, 6], [33, 31]⟩])
  (.ghost (.kill [0, 2, 3, 24, 25, 26, 27, 28, 29, 30, 31, 32, 33])))
  (.seq (.region false [
 ⟨some 8, .mv (.cst (.bool true)), none, [], []⟩])
  .ret))))
def escrow_stock_grant : AFunc := ⟨34, [.tmp 8], escrow_stock_grant.main⟩
/-- slices.Clone[[]int,int] -/
def slices_Clone_int.main : ACode := (.seq (.seq (.region false [
 ⟨some 2, .mv (.cst .nils), none, [], []⟩])
  (.ghost (.kill [2])))
  (.seq (.seq (.seq (.region false [
 ⟨some 3, .mv (.tmp 0), none, [], []⟩,
 ⟨some 4, .eqnil false .sl (.tmp 3), none, [], []⟩])
  (.ghost (.kill [3])))
  (.cond (.tmp 4) (.seq (.region false [
      ⟨some 2, .mv (.cst .nils), none, [], []⟩])
    .ret)
  .skip))
  (.seq (.region false [
 ⟨some 5, .bslice 1 0 [(.int .i64 0)] [], none, [], []⟩,
 ⟨some 6, .mv (.tmp 0), none, [], []⟩,
 ⟨some 7, .append 1 8 (.tmp 5) (.tmp 6), none, [], []⟩,
 ⟨some 2, .mv (.tmp 7), none, [], []⟩])
  .ret)))
def slices_Clone_int : AFunc := ⟨8, [.tmp 2], slices_Clone_int.main⟩
/-- chapman/escrow.Do$1 -/
def escrow_Do_1.c0 : ACode := (.seq (.region false [
 ⟨some 45, .faddr 0 (.tmp 1), none, [], []⟩,
 ⟨some 46, .faddr 0 (.tmp 45), none, [], []⟩,
 ⟨some 47, .load false 1 (.tmp 46), none, [], []⟩,
 ⟨some 48, .call true i_escrow_station [(.tmp 47)], none, [], []⟩,
 ⟨some 3, .mv (.tmp 48), none, [], []⟩])
  .ret)
def escrow_Do_1.c1 : ACode := (.ghost (.kill [0, 9, 10, 11, 12]))
def escrow_Do_1.b0 : ACode := (.seq (.region false [
 ⟨some 12, .bin .lss (.tmp 11) (.tmp 10), none, [], []⟩])
  (.seq (.cond (.tmp 12) .skip
  (.exit 0))
  (.seq (.trunc (.seq (.block 1 (.seq (.seq (.region false [
 ⟨some 13, .iaddr 9 (.tmp 9) (.tmp 11), none, [], []⟩,
 ⟨some 14, .load true 9 (.tmp 13), none, [], []⟩,
 ⟨some 5, .alloc [(.int .i64 0), (.int .i64 0), (.int .i64 0), (.int .i64 0), .nils, .nils, (.int .i64 0), (.int .i64 0), (.str ⟨#[]⟩)], none, [], []⟩,
 ⟨none, .store 9 (.tmp 5) (.tmp 14), none, [], []⟩])
  (.ghost (.kill [12, 13, 14])))
  (.seq (.seq (.region false [
 ⟨some 16, .load false 1 (.cst (.fptr [(.fmap [.int .i64 5, .int .i64 6] [.clo (.func i_escrow_stock_take) [] [], .clo (.func i_escrow_stock_grant) [] []])])), none, [], []⟩,
 ⟨some 17, .faddr 0 (.tmp 5), none, [], []⟩,
 ⟨some 18, .load false 1 (.tmp 17), none, [], []⟩,
 ⟨some 19, .lookup (.int .i64) .nilf true (.tmp 16) (.tmp 18), none, [], []⟩,
 ⟨some 15, .mv (.tmp 19), none, [], []⟩,
 ⟨some 20, .extr (.tmp 15) 0, none, [], []⟩,
 ⟨some 21, .extr (.tmp 15) 1, none, [], []⟩,
 ⟨some 6, .mv (.tmp 20), none, [], []⟩,
 ⟨some 7, .mv (.tmp 21), none, [], []⟩])
  (.ghost (.kill [15, 16, 17, 18, 19, 20, 21])))
  (.seq (.seq (.region false [
 ⟨some 22, .mv (.tmp 7), none, [], []⟩,
 ⟨some 23, .un .not (.tmp 22), none, [], []⟩,
 ⟨some 24, .mv (.tmp 23), none, [], []⟩,
 ⟨some 25, .faddr 6 (.tmp 5), (some ((some 24), false)), [], []⟩,
 ⟨some 26, .faddr 0 (.tmp 25), (some ((some 24), false)), [], []⟩,
 ⟨some 27, .load false 1 (.tmp 26), (some ((some 24), false)), [], []⟩,
 ⟨some 28, .bin .neq (.tmp 27) (.cst (.int .i64 2)), (some ((some 24), false)), [], []⟩,
 ⟨some 29, .pick (.tmp 24) (.cst (.bool true)) (.tmp 28), none, [], []⟩,
 ⟨some 30, .mv (.tmp 29), none, [], []⟩,
 ⟨some 31, .mv (.tmp 6), (some ((some 30), false)), [], []⟩,
 ⟨some 32, .mv (.tmp 0), (some ((some 30), false)), [], []⟩,
 ⟨some 33, .faddr 0 (.tmp 1), (some ((some 30), false)), [], []⟩,
 ⟨some 34, .faddr 0 (.tmp 33), (some ((some 30), false)), [], []⟩,
 ⟨some 35, .load false 1 (.tmp 34), (some ((some 30), false)), [], []⟩,
 ⟨some 36, .faddr 3 (.tmp 5), (some ((some 30), false)), [], []⟩,
 ⟨some 37, .load false 1 (.tmp 36), (some ((some 30), false)), [], []⟩,
 ⟨some 38, .faddr 6 (.tmp 5), (some ((some 30), false)), [], []⟩,
 ⟨some 39, .faddr 1 (.tmp 38), (some ((some 30), false)), [], []⟩,
 ⟨some 40, .load false 1 (.tmp 39), (some ((some 30), false)), [], []⟩,
 ⟨some 41, .callv false (.tmp 31) [(.tmp 32), (.tmp 35), (.tmp 37), (.tmp 40)], (some ((some 30), false)), [], []⟩,
 ⟨some 42, .un .not (.tmp 41), (some ((some 30), false)), [], []⟩,
 ⟨some 43, .pick (.tmp 30) (.cst (.bool true)) (.tmp 42), none, [], []⟩])
  (.ghost (.kill [5, 6, 7, 22, 23, 24, 25, 26, 27, 28, 29, 30, 31, 32, 33, 34, 35, 36, 37, 38, 39, 40, 41, 42])))
  (.cond (.tmp 43) (.seq (.region false [
      ⟨some 3, .mv (.cst (.bool false)), none, [], []⟩])
    .ret)
  .skip)))))
  (.ghost (.kill [43]))))
  (.seq (.region false [
 ⟨some 44, .bin .add (.tmp 11) (.cst (.int .i64 1)), none, [], []⟩,
 ⟨some 11, .mv (.tmp 44), none, [], []⟩])
  (.ghost (.kill [44]))))))
def escrow_Do_1.main : ACode := (.seq (.seq (.region false [
 ⟨some 3, .mv (.cst (.bool false)), none, [], []⟩])
  (.ghost (.kill [3])))
  (.seq (.seq (.seq (.region false [
 ⟨some 8, .faddr 4 (.tmp 1), none, [], []⟩,
 ⟨some 9, .load false 1 (.tmp 8), none, [], []⟩,
 ⟨some 10, .len .sl (.tmp 9), none, [], []⟩,
 ⟨some 11, .mv (.cst (.int .i64 0)), none, [], []⟩])
  (.ghost (.kill [8])))
  (.seq (.block 0 (.loop escrow_Do_1.b0))
  escrow_Do_1.c1))
  escrow_Do_1.c0))
def escrow_Do_1.k0 : List Item := [.inBlock 0, .code escrow_Do_1.c1, .code escrow_Do_1.c0]
def escrow_Do_1 : AFunc := ⟨49, [.tmp 3], escrow_Do_1.main⟩
/-- slices.IndexFunc[[]chapman/api.Commit,chapman/api.Commit] -/
def slices_IndexFunc_Commit.c0 : ACode := (.seq (.region false [
 ⟨some 4, .mv (.cst (.int .i64 (-1))), none, [], []⟩])
  .ret)
def slices_IndexFunc_Commit.c1 : ACode := (.ghost (.kill [0, 1, 7, 8, 9]))
def slices_IndexFunc_Commit.b0 : ACode := (.seq (.region false [
 ⟨some 9, .bin .lss (.tmp 8) (.tmp 7), none, [], []⟩])
  (.seq (.cond (.tmp 9) .skip
  (.exit 0))
  (.seq (.seq (.block 1 (.seq (.seq (.region false [
 ⟨some 10, .mv (.tmp 8), none, [], []⟩,
 ⟨some 5, .mv (.tmp 10), none, [], []⟩])
  (.ghost (.kill [9, 10])))
  (.seq (.seq (.region false [
 ⟨some 11, .mv (.tmp 1), none, [], []⟩,
 ⟨some 12, .mv (.tmp 0), none, [], []⟩,
 ⟨some 13, .mv (.tmp 5), none, [], []⟩,
 ⟨some 14, .iaddr 5 (.tmp 12) (.tmp 13), none, [], []⟩,
 ⟨some 15, .load true 5 (.tmp 14), none, [], []⟩,
 ⟨some 16, .callv true (.tmp 11) [(.tmp 15)], none, [], []⟩])
  (.ghost (.kill [11, 12, 13, 14, 15])))
  (.cond (.tmp 16) (.seq (.region false [
      ⟨some 17, .mv (.tmp 5), none, [], []⟩,
      ⟨some 4, .mv (.tmp 17), none, [], []⟩])
    .ret)
  .skip))))
  (.ghost (.kill [5, 16])))
  (.seq (.region false [
 ⟨some 18, .bin .add (.tmp 8) (.cst (.int .i64 1)), none, [], []⟩,
 ⟨some 8, .mv (.tmp 18), none, [], []⟩])
  (.ghost (.kill [18]))))))
def slices_IndexFunc_Commit.main : ACode := (.seq (.seq (.region false [
 ⟨some 4, .mv (.cst (.int .i64 0)), none, [], []⟩])
  (.ghost (.kill [4])))
  (.seq (.seq (.seq (.region false [
 ⟨some 6, .mv (.tmp 0), none, [], []⟩,
 ⟨some 7, .len .sl (.tmp 6), none, [], []⟩,
 ⟨some 8, .mv (.cst (.int .i64 0)), none, [], []⟩])
  (.ghost (.kill [6])))
  (.seq (.block 0 (.loop slices_IndexFunc_Commit.b0))
  slices_IndexFunc_Commit.c1))
  slices_IndexFunc_Commit.c0))
def slices_IndexFunc_Commit.k0 : List Item := [.inBlock 0, .code slices_IndexFunc_Commit.c1, .code slices_IndexFunc_Commit.c0]
def slices_IndexFunc_Commit : AFunc := ⟨19, [.tmp 4], slices_IndexFunc_Commit.main⟩
/-- chapman/cut.WellFormed -/
def cut_WellFormed.main : ACode := (.seq (.seq (.region false [
 ⟨some 1, .box 5 (.tmp 0), none, [], []⟩,
 ⟨some 2, .mv (.cst (.bool false)), none, [], []⟩])
  (.ghost (.kill [0, 2])))
  (.seq (.seq (.region false [
 ⟨some 4, .faddr 0 (.tmp 1), none, [], []⟩,
 ⟨some 5, .load true 2 (.tmp 4), none, [], []⟩,
 ⟨some 3, .alloc [(.int .i64 0), (.int .i64 0)], none, [], []⟩,
 ⟨none, .store 2 (.tmp 3) (.tmp 5), none, [], []⟩])
  (.ghost (.kill [4, 5])))
  (.seq (.region true [
 ⟨some 6, .faddr 0 (.tmp 3), none, [], [3]⟩,
 ⟨some 7, .load false 1 (.tmp 6), none, [0], [6]⟩,
 ⟨some 8, .bin .geq (.tmp 7) (.cst (.int .i64 0)), none, [1], [7]⟩,
 ⟨some 9, .mv (.tmp 8), none, [2], [8]⟩,
 ⟨some 10, .faddr 0 (.tmp 3), (some ((some 9), true)), [3], [3]⟩,
 ⟨some 11, .load false 1 (.tmp 10), (some ((some 9), true)), [4, 3], [10]⟩,
 ⟨some 12, .bin .lss (.tmp 11) (.cst (.int .i64 6)), (some ((some 9), true)), [5, 3], [11]⟩,
 ⟨some 13, .pick (.tmp 9) (.tmp 12) (.cst (.bool false)), none, [3, 6], [9, 12]⟩,
 ⟨some 14, .mv (.tmp 13), none, [7, 3], [13]⟩,
 ⟨some 15, .faddr 1 (.tmp 3), (some ((some 14), true)), [8], [3]⟩,
 ⟨some 16, .load false 1 (.tmp 15), (some ((some 14), true)), [9, 8], [15]⟩,
 ⟨some 17, .bin .geq (.tmp 16) (.cst (.int .i64 1)), (some ((some 14), true)), [10, 8], [16]⟩,
 ⟨some 18, .pick (.tmp 14) (.tmp 17) (.cst (.bool false)), none, [8, 11], [14, 17]⟩,
 ⟨some 19, .mv (.tmp 18), none, [12, 8], [18]⟩,
 ⟨some 20, .faddr 1 (.tmp 3), (some ((some 19), true)), [13], [3]⟩,
 ⟨some 21, .load false 1 (.tmp 20), (some ((some 19), true)), [14, 13], [20]⟩,
 ⟨some 22, .bin .leq (.tmp 21) (.cst (.int .i64 999)), (some ((some 19), true)), [15, 13], [21]⟩,
 ⟨some 23, .pick (.tmp 19) (.tmp 22) (.cst (.bool false)), none, [13, 16], [19, 22]⟩,
 ⟨some 24, .mv (.tmp 23), none, [17, 13], [23]⟩,
 ⟨some 25, .faddr 2 (.tmp 1), (some ((some 24), true)), [18], [1]⟩,
 ⟨some 26, .load false 1 (.tmp 25), (some ((some 24), true)), [19, 18], [25]⟩,
 ⟨some 27, .call true i_cut_Valid [(.tmp 26)], (some ((some 24), true)), [20, 18, 18], [26]⟩,
 ⟨some 28, .pick (.tmp 24) (.tmp 27) (.cst (.bool false)), none, [18, 21], [24, 27]⟩,
 ⟨some 29, .mv (.tmp 28), none, [22, 21], [28]⟩,
 ⟨some 30, .faddr 2 (.tmp 1), (some ((some 29), true)), [23], [1]⟩,
 ⟨some 31, .load false 1 (.tmp 30), (some ((some 29), true)), [24, 23], [30]⟩,
 ⟨some 32, .faddr 0 (.tmp 3), (some ((some 29), true)), [23], [3]⟩,
 ⟨some 33, .load false 1 (.tmp 32), (some ((some 29), true)), [26, 23], [32]⟩,
 ⟨some 34, .iaddr 1 (.tmp 31) (.tmp 33), (some ((some 29), true)), [25, 27, 23], [31, 33]⟩,
 ⟨some 35, .load false 1 (.tmp 34), (some ((some 29), true)), [28, 23], [34]⟩,
 ⟨some 36, .faddr 1 (.tmp 3), (some ((some 29), true)), [23], [3]⟩,
 ⟨some 37, .load false 1 (.tmp 36), (some ((some 29), true)), [30, 23], [36]⟩,
 ⟨some 38, .bin .sub (.tmp 37) (.cst (.int .i64 1)), (some ((some 29), true)), [31, 23], [37]⟩,
 ⟨some 39, .bin .eql (.tmp 35) (.tmp 38), (some ((some 29), true)), [29, 32, 23], [35, 38]⟩,
 ⟨some 40, .pick (.tmp 29) (.tmp 39) (.cst (.bool false)), none, [23, 33], [29, 39]⟩,
 ⟨some 2, .mv (.tmp 40), none, [34, 23, 0, 1, 2, 3, 4, 5, 6, 7, 8, 9, 10, 11, 12, 13, 14, 15, 16, 17, 18, 19, 20, 21, 22, 23, 24, 25, 26, 27, 28, 29, 30, 31, 32, 33, 34], [40]⟩])
  .ret)))
def cut_WellFormed : AFunc := ⟨41, [.tmp 2], cut_WellFormed.main⟩
/-- slices.stableCmpFunc[chapman/api.Commit] -/
def slices_stableCmpFunc_Commit.c0 : ACode := (.ghost (.kill [0, 1, 2, 6, 30]))
def slices_stableCmpFunc_Commit.c1 : ACode := (.seq (.region false [
 ⟨some 61, .mv (.tmp 6), none, [], []⟩,
 ⟨some 62, .bin .mul (.tmp 61) (.cst (.int .i64 2)), none, [], []⟩,
 ⟨some 6, .mv (.tmp 62), none, [], []⟩])
  (.ghost (.kill [61, 62])))
def slices_stableCmpFunc_Commit.c2 : ACode := (.seq (.seq (.seq (.region false [
 ⟨some 49, .mv (.tmp 7), none, [], []⟩,
 ⟨some 50, .mv (.tmp 6), none, [], []⟩,
 ⟨some 51, .bin .add (.tmp 49) (.tmp 50), none, [], []⟩,
 ⟨some 9, .mv (.tmp 51), none, [], []⟩])
  (.ghost (.kill [49, 50, 51])))
  (.seq (.seq (.region false [
 ⟨some 52, .mv (.tmp 9), none, [], []⟩,
 ⟨some 53, .mv (.tmp 1), none, [], []⟩,
 ⟨some 54, .bin .lss (.tmp 52) (.tmp 53), none, [], []⟩])
  (.ghost (.kill [52, 53])))
  (.seq (.cond (.tmp 54) (.seq (.region false [
      ⟨some 55, .mv (.tmp 0), none, [], []⟩,
      ⟨some 56, .mv (.tmp 7), none, [], []⟩,
      ⟨some 57, .mv (.tmp 9), none, [], []⟩,
      ⟨some 58, .mv (.tmp 1), none, [], []⟩,
      ⟨some 59, .mv (.tmp 2), none, [], []⟩,
      ⟨some 60, .call false i_slices_symMergeCmpFunc_Commit [(.tmp 55), (.tmp 56), (.tmp 57), (.tmp 58), (.tmp 59)], none, [], []⟩])
    (.ghost (.kill [7, 9, 54, 55, 56, 57, 58, 59, 60])))
  .skip)
  (.ghost (.kill [7, 9, 54])))))
  slices_stableCmpFunc_Commit.c1)
def slices_stableCmpFunc_Commit.b2 : ACode := (.seq (.seq (.seq (.region false [
 ⟨some 33, .mv (.tmp 8), none, [], []⟩,
 ⟨some 34, .mv (.tmp 1), none, [], []⟩,
 ⟨some 35, .bin .leq (.tmp 33) (.tmp 34), none, [], []⟩])
  (.ghost (.kill [33, 34])))
  (.cond (.tmp 35) .skip
  (.exit 4)))
  (.trunc (.block 5 (.seq (.seq (.region false [
 ⟨some 36, .mv (.tmp 0), none, [], []⟩,
 ⟨some 37, .mv (.tmp 7), none, [], []⟩,
 ⟨some 38, .mv (.tmp 7), none, [], []⟩,
 ⟨some 39, .mv (.tmp 6), none, [], []⟩,
 ⟨some 40, .bin .add (.tmp 38) (.tmp 39), none, [], []⟩,
 ⟨some 41, .mv (.tmp 8), none, [], []⟩,
 ⟨some 42, .mv (.tmp 2), none, [], []⟩,
 ⟨some 43, .call false i_slices_symMergeCmpFunc_Commit [(.tmp 36), (.tmp 37), (.tmp 40), (.tmp 41), (.tmp 42)], none, [], []⟩])
  (.ghost (.kill [7, 35, 36, 37, 38, 39, 40, 41, 42, 43])))
  (.seq (.seq (.region false [
 ⟨some 44, .mv (.tmp 8), none, [], []⟩,
 ⟨some 7, .mv (.tmp 44), none, [], []⟩])
  (.ghost (.kill [44])))
  (.seq (.region false [
 ⟨some 45, .mv (.tmp 8), none, [], []⟩,
 ⟨some 46, .mv (.tmp 6), none, [], []⟩,
 ⟨some 47, .bin .mul (.cst (.int .i64 2)) (.tmp 46), none, [], []⟩,
 ⟨some 48, .bin .add (.tmp 45) (.tmp 47), none, [], []⟩,
 ⟨some 8, .mv (.tmp 48), none, [], []⟩])
  (.ghost (.kill [45, 46, 47, 48]))))))))
def slices_stableCmpFunc_Commit.b1 : ACode := (.seq (.seq (.seq (.region false [
 ⟨some 28, .mv (.tmp 6), none, [], []⟩,
 ⟨some 29, .mv (.tmp 1), none, [], []⟩,
 ⟨some 30, .bin .lss (.tmp 28) (.tmp 29), none, [], []⟩])
  (.ghost (.kill [28, 29])))
  (.cond (.tmp 30) .skip
  (.exit 2)))
  (.trunc (.block 3 (.seq (.seq (.region false [
 ⟨some 31, .mv (.tmp 6), none, [], []⟩,
 ⟨some 32, .bin .mul (.cst (.int .i64 2)) (.tmp 31), none, [], []⟩,
 ⟨some 7, .mv (.cst (.int .i64 0)), none, [], []⟩,
 ⟨some 8, .mv (.tmp 32), none, [], []⟩])
  (.ghost (.kill [30, 31, 32])))
  (.seq (.seq (.block 4 (.loop slices_stableCmpFunc_Commit.b2))
  (.ghost (.kill [8, 35])))
  slices_stableCmpFunc_Commit.c2)))))
def slices_stableCmpFunc_Commit.c3 : ACode := (.seq (.seq (.region false [
 ⟨some 23, .mv (.tmp 0), none, [], []⟩,
 ⟨some 24, .mv (.tmp 7), none, [], []⟩,
 ⟨some 25, .mv (.tmp 1), none, [], []⟩,
 ⟨some 26, .mv (.tmp 2), none, [], []⟩,
 ⟨some 27, .call false i_slices_insertionSortCmpFunc_Commit [(.tmp 23), (.tmp 24), (.tmp 25), (.tmp 26)], none, [], []⟩])
  (.ghost (.kill [7, 23, 24, 25, 26, 27])))
  (.seq (.block 2 (.loop slices_stableCmpFunc_Commit.b1))
  slices_stableCmpFunc_Commit.c0))
def slices_stableCmpFunc_Commit.b0 : ACode := (.seq (.seq (.seq (.region false [
 ⟨some 11, .mv (.tmp 8), none, [], []⟩,
 ⟨some 12, .mv (.tmp 1), none, [], []⟩,
 ⟨some 13, .bin .leq (.tmp 11) (.tmp 12), none, [], []⟩])
  (.ghost (.kill [11, 12])))
  (.cond (.tmp 13) .skip
  (.exit 0)))
  (.trunc (.block 1 (.seq (.seq (.region false [
 ⟨some 14, .mv (.tmp 0), none, [], []⟩,
 ⟨some 15, .mv (.tmp 7), none, [], []⟩,
 ⟨some 16, .mv (.tmp 8), none, [], []⟩,
 ⟨some 17, .mv (.tmp 2), none, [], []⟩,
 ⟨some 18, .call false i_slices_insertionSortCmpFunc_Commit [(.tmp 14), (.tmp 15), (.tmp 16), (.tmp 17)], none, [], []⟩])
  (.ghost (.kill [7, 13, 14, 15, 16, 17, 18])))
  (.seq (.seq (.region false [
 ⟨some 19, .mv (.tmp 8), none, [], []⟩,
 ⟨some 7, .mv (.tmp 19), none, [], []⟩])
  (.ghost (.kill [19])))
  (.seq (.region false [
 ⟨some 20, .mv (.tmp 8), none, [], []⟩,
 ⟨some 21, .mv (.tmp 6), none, [], []⟩,
 ⟨some 22, .bin .add (.tmp 20) (.tmp 21), none, [], []⟩,
 ⟨some 8, .mv (.tmp 22), none, [], []⟩])
  (.ghost (.kill [20, 21, 22]))))))))
def slices_stableCmpFunc_Commit.main : ACode := (.seq (.region false [
 ⟨some 6, .mv (.cst (.int .i64 20)), none, [], []⟩])
  (.seq (.seq (.region false [
 ⟨some 10, .mv (.tmp 6), none, [], []⟩,
 ⟨some 7, .mv (.cst (.int .i64 0)), none, [], []⟩,
 ⟨some 8, .mv (.tmp 10), none, [], []⟩])
  (.ghost (.kill [10])))
  (.seq (.seq (.block 0 (.loop slices_stableCmpFunc_Commit.b0))
  (.ghost (.kill [8, 13])))
  slices_stableCmpFunc_Commit.c3)))
def slices_stableCmpFunc_Commit.k2 (m0 : Nat) : List Item := [.inBlock 4, .code (.ghost (.kill [8, 35])), .code slices_stableCmpFunc_Commit.c2, .inBlock 3, .inTrunc m0, .inLoop slices_stableCmpFunc_Commit.b1, .inBlock 2, .code slices_stableCmpFunc_Commit.c0]
def slices_stableCmpFunc_Commit.k1 : List Item := [.inBlock 2, .code slices_stableCmpFunc_Commit.c0]
def slices_stableCmpFunc_Commit.k0 : List Item := [.inBlock 0, .code (.ghost (.kill [8, 13])), .code slices_stableCmpFunc_Commit.c3]
def slices_stableCmpFunc_Commit : AFunc := ⟨63, [], slices_stableCmpFunc_Commit.main⟩
/-- chapman/chapmanref20.Before -/
def r20_Before.main : ACode := (.seq (.seq (.region false [
 ⟨some 2, .box 5 (.tmp 0), none, [], []⟩,
 ⟨some 3, .box 5 (.tmp 1), none, [], []⟩,
 ⟨some 4, .mv (.cst (.bool false)), none, [], []⟩])
  (.ghost (.kill [0, 1, 4])))
  (.seq (.seq (.seq (.region false [
 ⟨some 7, .load true 5 (.tmp 2), none, [], []⟩,
 ⟨some 8, .call true i_r20_WellFormed [(.tmp 7)], none, [], []⟩,
 ⟨some 9, .un .not (.tmp 8), none, [], []⟩,
 ⟨some 10, .mv (.tmp 9), none, [], []⟩,
 ⟨some 11, .load true 5 (.tmp 3), (some ((some 10), false)), [], []⟩,
 ⟨some 12, .call true i_r20_WellFormed [(.tmp 11)], (some ((some 10), false)), [], []⟩,
 ⟨some 13, .un .not (.tmp 12), (some ((some 10), false)), [], []⟩,
 ⟨some 14, .pick (.tmp 10) (.cst (.bool true)) (.tmp 13), none, [], []⟩])
  (.ghost (.kill [7, 8, 9, 10, 11, 12, 13])))
  (.cond (.tmp 14) (.seq (.region false [
      ⟨some 4, .mv (.cst (.bool false)), none, [], []⟩])
    .ret)
  .skip))
  (.seq (.seq (.region true [
 ⟨some 15, .load true 5 (.tmp 2), none, [], [2]⟩,
 ⟨some 16, .call true i_r20_Weight [(.tmp 15)], none, [0], [15]⟩,
 ⟨some 17, .load true 5 (.tmp 3), none, [], [3]⟩,
 ⟨some 18, .call true i_r20_Weight [(.tmp 17)], none, [2, 1], [17]⟩,
 ⟨some 5, .mv (.tmp 16), none, [1, 3, 0, 1], [16]⟩,
 ⟨some 6, .mv (.tmp 18), none, [3, 4, 0, 1, 2, 3, 4], [18]⟩])
  (.ghost (.kill [14, 15, 16, 17, 18])))
  (.seq (.seq (.seq (.region false [
 ⟨some 19, .mv (.tmp 5), none, [], []⟩,
 ⟨some 20, .mv (.tmp 6), none, [], []⟩,
 ⟨some 21, .bin .neq (.tmp 19) (.tmp 20), none, [], []⟩])
  (.ghost (.kill [19, 20])))
  (.cond (.tmp 21) (.seq (.region false [
      ⟨some 22, .mv (.tmp 5), none, [], []⟩,
      ⟨some 23, .mv (.tmp 6), none, [], []⟩,
      ⟨some 24, .bin .lss (.tmp 22) (.tmp 23), none, [], []⟩,
      ⟨some 4, .mv (.tmp 24), none, [], []⟩])
    .ret)
  .skip))
  (.seq (.seq (.seq (.region false [
 ⟨some 25, .faddr 0 (.tmp 2), none, [], []⟩,
 ⟨some 26, .faddr 0 (.tmp 25), none, [], []⟩,
 ⟨some 27, .load false 1 (.tmp 26), none, [], []⟩,
 ⟨some 28, .faddr 0 (.tmp 3), none, [], []⟩,
 ⟨some 29, .faddr 0 (.tmp 28), none, [], []⟩,
 ⟨some 30, .load false 1 (.tmp 29), none, [], []⟩,
 ⟨some 31, .bin .neq (.tmp 27) (.tmp 30), none, [], []⟩])
  (.ghost (.kill [5, 6, 21, 25, 26, 27, 28, 29, 30])))
  (.cond (.tmp 31) (.seq (.region false [
      ⟨some 32, .faddr 0 (.tmp 2), none, [], []⟩,
      ⟨some 33, .faddr 0 (.tmp 32), none, [], []⟩,
      ⟨some 34, .load false 1 (.tmp 33), none, [], []⟩,
      ⟨some 35, .faddr 0 (.tmp 3), none, [], []⟩,
      ⟨some 36, .faddr 0 (.tmp 35), none, [], []⟩,
      ⟨some 37, .load false 1 (.tmp 36), none, [], []⟩,
      ⟨some 38, .bin .lss (.tmp 34) (.tmp 37), none, [], []⟩,
      ⟨some 4, .mv (.tmp 38), none, [], []⟩])
    .ret)
  .skip))
  (.seq (.region false [
 ⟨some 39, .faddr 0 (.tmp 2), none, [], []⟩,
 ⟨some 40, .faddr 1 (.tmp 39), none, [], []⟩,
 ⟨some 41, .load false 1 (.tmp 40), none, [], []⟩,
 ⟨some 42, .faddr 0 (.tmp 3), none, [], []⟩,
 ⟨some 43, .faddr 1 (.tmp 42), none, [], []⟩,
 ⟨some 44, .load false 1 (.tmp 43), none, [], []⟩,
 ⟨some 45, .bin .lss (.tmp 41) (.tmp 44), none, [], []⟩,
 ⟨some 4, .mv (.tmp 45), none, [], []⟩])
  .ret))))))
def r20_Before : AFunc := ⟨46, [.tmp 4], r20_Before.main⟩
/-- chapman/chapmanref20.Closed -/
def r20_Closed.c0 : ACode := (.seq (.region false [
 ⟨some 4, .mv (.cst (.bool true)), none, [], []⟩])
  .ret)
def r20_Closed.c1 : ACode := (.ghost (.kill [0, 1, 5, 12]))
def r20_Closed.b0 : ACode := (.seq (.seq (.seq (.region false [
 ⟨some 9, .mv (.tmp 5), none, [], []⟩,
 ⟨some 10, .mv (.tmp 1), none, [], []⟩,
 ⟨some 11, .len .sl (.tmp 10), none, [], []⟩,
 ⟨some 12, .bin .lss (.tmp 9) (.tmp 11), none, [], []⟩])
  (.ghost (.kill [9, 10, 11])))
  (.cond (.tmp 12) .skip
  (.exit 0)))
  (.seq (.seq (.block 1 (.seq (.seq (.region true [
 ⟨some 15, .mv (.tmp 0), none, [], [0]⟩,
 ⟨some 16, .mv (.tmp 1), none, [], [1]⟩,
 ⟨some 17, .mv (.tmp 5), none, [], [5]⟩,
 ⟨some 18, .call true i_r20_fits [(.tmp 15), (.tmp 16), (.tmp 17)], none, [0, 1, 2], [15, 16, 17]⟩,
 ⟨some 19, .mv (.tmp 1), none, [], [1]⟩,
 ⟨some 20, .mv (.tmp 5), none, [], [5]⟩,
 ⟨some 21, .iaddr 1 (.tmp 19) (.tmp 20), none, [4, 5], [19, 20]⟩,
 ⟨some 22, .load false 1 (.tmp 21), none, [6], [21]⟩,
 ⟨some 23, .bin .lss (.tmp 18) (.tmp 22), none, [3, 7], [18, 22]⟩])
  (.ghost (.kill [12, 15, 16, 17, 18, 19, 20, 21, 22])))
  (.cond (.tmp 23) (.seq (.region false [
      ⟨some 4, .mv (.cst (.bool false)), none, [], []⟩])
    .ret)
  .skip)))
  (.ghost (.kill [23])))
  (.seq (.region false [
 ⟨some 13, .mv (.tmp 5), none, [], []⟩,
 ⟨some 14, .bin .add (.tmp 13) (.cst (.int .i64 1)), none, [], []⟩,
 ⟨some 5, .mv (.tmp 14), none, [], []⟩])
  (.ghost (.kill [13, 14])))))
def r20_Closed.main : ACode := (.seq (.seq (.region false [
 ⟨some 4, .mv (.cst (.bool false)), none, [], []⟩])
  (.ghost (.kill [4])))
  (.seq (.seq (.seq (.region false [
 ⟨some 6, .mv (.tmp 1), none, [], []⟩,
 ⟨some 7, .call true i_r20_Valid [(.tmp 6)], none, [], []⟩,
 ⟨some 8, .un .not (.tmp 7), none, [], []⟩])
  (.ghost (.kill [6, 7])))
  (.cond (.tmp 8) (.seq (.region false [
      ⟨some 4, .mv (.cst (.bool false)), none, [], []⟩])
    .ret)
  .skip))
  (.seq (.seq (.seq (.region false [
 ⟨some 5, .mv (.cst (.int .i64 0)), none, [], []⟩])
  (.ghost (.kill [8])))
  (.seq (.block 0 (.loop r20_Closed.b0))
  r20_Closed.c1))
  r20_Closed.c0)))
def r20_Closed.k0 : List Item := [.inBlock 0, .code r20_Closed.c1, .code r20_Closed.c0]
def r20_Closed : AFunc := ⟨24, [.tmp 4], r20_Closed.main⟩
/-- chapman/chapmanref20.fits -/
def r20_fits.c0 : ACode := (.seq (.region false [
 ⟨some 44, .mv (.tmp 1), none, [], []⟩,
 ⟨some 45, .mv (.tmp 2), none, [], []⟩,
 ⟨some 46, .iaddr 1 (.tmp 44) (.tmp 45), none, [], []⟩,
 ⟨some 47, .load false 1 (.tmp 46), none, [], []⟩,
 ⟨some 6, .mv (.tmp 47), none, [], []⟩])
  .ret)
def r20_fits.b0 : ACode := (.seq (.seq (.seq (.region false [
 ⟨some 9, .mv (.tmp 7), none, [], []⟩,
 ⟨some 10, .mv (.tmp 1), none, [], []⟩,
 ⟨some 11, .mv (.tmp 2), none, [], []⟩,
 ⟨some 12, .iaddr 1 (.tmp 10) (.tmp 11), none, [], []⟩,
 ⟨some 13, .load false 1 (.tmp 12), none, [], []⟩,
 ⟨some 14, .bin .leq (.tmp 9) (.tmp 13), none, [], []⟩])
  (.ghost (.kill [9, 10, 11, 12, 13])))
  (.cond (.tmp 14) .skip
  (.exit 0)))
  (.seq (.seq (.block 1 (.seq (.seq (.region false [
 ⟨some 17, .mv (.tmp 0), none, [], []⟩,
 ⟨some 18, .mv (.tmp 2), none, [], []⟩,
 ⟨some 19, .mv (.tmp 7), none, [], []⟩,
 ⟨some 20, .build [(.int .i64 0), (.int .i64 0)] [(0, 1, (.tmp 18)), (1, 1, (.tmp 19))], none, [], []⟩,
 ⟨some 21, .call true i_r20_Find [(.tmp 17), (.tmp 20)], none, [], []⟩,
 ⟨some 8, .mv (.tmp 21), none, [], []⟩])
  (.ghost (.kill [14, 17, 18, 19, 20, 21])))
  (.seq (.seq (.region false [
 ⟨some 22, .mv (.tmp 8), none, [], []⟩,
 ⟨some 23, .bin .lss (.tmp 22) (.cst (.int .i64 0)), none, [], []⟩,
 ⟨some 24, .mv (.tmp 23), none, [], []⟩,
 ⟨some 25, .mv (.tmp 0), (some ((some 24), false)), [], []⟩,
 ⟨some 26, .mv (.tmp 8), (some ((some 24), false)), [], []⟩,
 ⟨some 27, .iaddr 5 (.tmp 25) (.tmp 26), (some ((some 24), false)), [], []⟩,
 ⟨some 28, .load true 5 (.tmp 27), (some ((some 24), false)), [], []⟩,
 ⟨some 29, .call true i_r20_WellFormed [(.tmp 28)], (some ((some 24), false)), [], []⟩,
 ⟨some 30, .un .not (.tmp 29), (some ((some 24), false)), [], []⟩,
 ⟨some 31, .pick (.tmp 24) (.cst (.bool true)) (.tmp 30), none, [], []⟩,
 ⟨some 32, .mv (.tmp 31), none, [], []⟩,
 ⟨some 33, .mv (.tmp 0), (some ((some 32), false)), [], []⟩,
 ⟨some 34, .mv (.tmp 8), (some ((some 32), false)), [], []⟩,
 ⟨some 35, .iaddr 5 (.tmp 33) (.tmp 34), (some ((some 32), false)), [], []⟩,
 ⟨some 36, .faddr 2 (.tmp 35), (some ((some 32), false)), [], []⟩,
 ⟨some 37, .load false 1 (.tmp 36), (some ((some 32), false)), [], []⟩,
 ⟨some 38, .mv (.tmp 1), (some ((some 32), false)), [], []⟩,
 ⟨some 39, .call true i_r20_Leq [(.tmp 37), (.tmp 38)], (some ((some 32), false)), [], []⟩,
 ⟨some 40, .un .not (.tmp 39), (some ((some 32), false)), [], []⟩,
 ⟨some 41, .pick (.tmp 32) (.cst (.bool true)) (.tmp 40), none, [], []⟩])
  (.ghost (.kill [8, 22, 23, 24, 25, 26, 27, 28, 29, 30, 31, 32, 33, 34, 35, 36, 37, 38, 39, 40])))
  (.cond (.tmp 41) (.seq (.region false [
      ⟨some 42, .mv (.tmp 7), none, [], []⟩,
      ⟨some 43, .bin .sub (.tmp 42) (.cst (.int .i64 1)), none, [], []⟩,
      ⟨some 6, .mv (.tmp 43), none, [], []⟩])
    .ret)
  .skip))))
  (.ghost (.kill [41])))
  (.seq (.region false [
 ⟨some 15, .mv (.tmp 7), none, [], []⟩,
 ⟨some 16, .bin .add (.tmp 15) (.cst (.int .i64 1)), none, [], []⟩,
 ⟨some 7, .mv (.tmp 16), none, [], []⟩])
  (.ghost (.kill [15, 16])))))
def r20_fits.main : ACode := (.seq (.seq (.region false [
 ⟨some 6, .mv (.cst (.int .i64 0)), none, [], []⟩])
  (.ghost (.kill [6])))
  (.seq (.seq (.region false [
 ⟨some 7, .mv (.cst (.int .i64 1)), none, [], []⟩])
  (.seq (.block 0 (.loop r20_fits.b0))
  (.ghost (.kill [0, 7, 14]))))
  r20_fits.c0))
def r20_fits.k0 : List Item := [.inBlock 0, .code (.ghost (.kill [0, 7, 14])), .code r20_fits.c0]
def r20_fits : AFunc := ⟨48, [.tmp 6], r20_fits.main⟩
/-- chapman/cut.reach -/
def cut_reach.c0 : ACode := (.ghost (.kill [0, 1, 4, 12]))
def cut_reach.c1 : ACode := (.seq (.region false [
 ⟨some 57, .bin .add (.tmp 13) (.cst (.int .i64 1)), none, [], []⟩,
 ⟨some 13, .mv (.tmp 57), none, [], []⟩])
  (.ghost (.kill [57])))
def cut_reach.c2 : ACode := (.ghost (.kill [6, 19, 20, 21]))
def cut_reach.b2 : ACode := (.seq (.region false [
 ⟨some 21, .bin .lss (.tmp 20) (.tmp 19), none, [], []⟩])
  (.seq (.cond (.tmp 21) .skip
  (.exit 4))
  (.seq (.seq (.block 5 (.seq (.seq (.region false [
 ⟨some 22, .mv (.tmp 20), none, [], []⟩,
 ⟨some 7, .mv (.tmp 22), none, [], []⟩])
  (.ghost (.kill [21, 22])))
  (.seq (.seq (.region false [
 ⟨some 24, .mv (.tmp 4), none, [], []⟩,
 ⟨some 25, .mv (.tmp 6), none, [], []⟩,
 ⟨some 26, .mv (.tmp 7), none, [], []⟩,
 ⟨some 27, .bin .add (.tmp 26) (.cst (.int .i64 1)), none, [], []⟩,
 ⟨some 28, .build [(.int .i64 0), (.int .i64 0)] [(0, 1, (.tmp 25)), (1, 1, (.tmp 27))], none, [], []⟩,
 ⟨some 29, .lookup (.row [(0, 1, false, (.int .i64)), (1, 1, false, (.int .i64))]) (.int .i64 0) true (.tmp 24) (.tmp 28), none, [], []⟩,
 ⟨some 23, .mv (.tmp 29), none, [], []⟩,
 ⟨some 30, .extr (.tmp 23) 0, none, [], []⟩,
 ⟨some 31, .extr (.tmp 23) 1, none, [], []⟩,
 ⟨some 8, .mv (.tmp 30), none, [], []⟩,
 ⟨some 9, .mv (.tmp 31), none, [], []⟩])
  (.ghost (.kill [23, 24, 25, 26, 27, 28, 29, 30, 31])))
  (.seq (.seq (.region false [
 ⟨some 32, .mv (.tmp 9), none, [], []⟩,
 ⟨some 33, .un .not (.tmp 32), none, [], []⟩,
 ⟨some 34, .mv (.tmp 33), none, [], []⟩,
 ⟨some 35, .mv (.tmp 0), (some ((some 34), false)), [], []⟩,
 ⟨some 36, .mv (.tmp 8), (some ((some 34), false)), [], []⟩,
 ⟨some 37, .iaddr 5 (.tmp 35) (.tmp 36), (some ((some 34), false)), [], []⟩,
 ⟨some 38, .load true 5 (.tmp 37), (some ((some 34), false)), [], []⟩,
 ⟨some 39, .call true i_cut_WellFormed [(.tmp 38)], (some ((some 34), false)), [], []⟩,
 ⟨some 40, .un .not (.tmp 39), (some ((some 34), false)), [], []⟩,
 ⟨some 41, .pick (.tmp 34) (.cst (.bool true)) (.tmp 40), none, [], []⟩,
 ⟨some 42, .mv (.tmp 41), none, [], []⟩,
 ⟨some 43, .mv (.tmp 0), (some ((some 42), false)), [], []⟩,
 ⟨some 44, .mv (.tmp 8), (some ((some 42), false)), [], []⟩,
 ⟨some 45, .iaddr 5 (.tmp 43) (.tmp 44), (some ((some 42), false)), [], []⟩,
 ⟨some 46, .faddr 2 (.tmp 45), (some ((some 42), false)), [], []⟩,
 ⟨some 47, .load false 1 (.tmp 46), (some ((some 42), false)), [], []⟩,
 ⟨some 48, .mv (.tmp 1), (some ((some 42), false)), [], []⟩,
 ⟨some 49, .call true i_cut_Leq [(.tmp 47), (.tmp 48)], (some ((some 42), false)), [], []⟩,
 ⟨some 50, .un .not (.tmp 49), (some ((some 42), false)), [], []⟩,
 ⟨some 51, .pick (.tmp 42) (.cst (.bool true)) (.tmp 50), none, [], []⟩])
  (.ghost (.kill [8, 9, 32, 33, 34, 35, 36, 37, 38, 39, 40, 41, 42, 43, 44, 45, 46, 47, 48, 49, 50])))
  (.cond (.tmp 51) (.seq (.seq (.region false [
      ⟨some 52, .mv (.tmp 1), none, [], []⟩,
      ⟨some 53, .mv (.tmp 6), none, [], []⟩,
      ⟨some 54, .mv (.tmp 7), none, [], []⟩,
      ⟨some 55, .iaddr 1 (.tmp 52) (.tmp 53), none, [], []⟩,
      ⟨none, .store 1 (.tmp 55) (.tmp 54), none, [], []⟩,
      ⟨some 5, .mv (.cst (.bool true)), none, [], []⟩])
    (.ghost (.kill [6, 7, 13, 19, 20, 51, 52, 53, 54, 55])))
    (.exit 1))
  .skip)))))
  (.ghost (.kill [7, 51])))
  (.seq (.region false [
 ⟨some 56, .bin .add (.tmp 20) (.cst (.int .i64 1)), none, [], []⟩,
 ⟨some 20, .mv (.tmp 56), none, [], []⟩])
  (.ghost (.kill [56]))))))
def cut_reach.b1 : ACode := (.seq (.region false [
 ⟨some 14, .bin .lss (.tmp 13) (.cst (.int .i64 6)), none, [], []⟩])
  (.seq (.cond (.tmp 14) .skip
  (.exit 2))
  (.seq (.block 3 (.seq (.seq (.region false [
 ⟨some 15, .mv (.tmp 13), none, [], []⟩,
 ⟨some 6, .mv (.tmp 15), none, [], []⟩])
  (.ghost (.kill [14, 15])))
  (.seq (.seq (.region false [
 ⟨some 16, .mv (.tmp 1), none, [], []⟩,
 ⟨some 17, .mv (.tmp 6), none, [], []⟩,
 ⟨some 18, .iaddr 1 (.tmp 16) (.tmp 17), none, [], []⟩,
 ⟨some 19, .load false 1 (.tmp 18), none, [], []⟩,
 ⟨some 20, .mv (.cst (.int .i64 0)), none, [], []⟩])
  (.ghost (.kill [16, 17, 18])))
  (.seq (.block 4 (.loop cut_reach.b2))
  cut_reach.c2))))
  cut_reach.c1)))
def cut_reach.b0 : ACode := (.seq (.seq (.seq (.region false [
 ⟨some 12, .mv (.tmp 5), none, [], []⟩])
  (.ghost (.kill [5])))
  (.cond (.tmp 12) .skip
  (.exit 0)))
  (.block 1 (.seq (.seq (.region false [
 ⟨some 5, .mv (.cst (.bool false)), none, [], []⟩])
  (.ghost (.kill [12])))
  (.seq (.region false [
 ⟨some 13, .mv (.cst (.int .i64 0)), none, [], []⟩])
  (.seq (.block 2 (.loop cut_reach.b1))
  (.ghost (.kill [13, 14])))))))
def cut_reach.main : ACode := (.scope (.seq (.seq (.region false [
 ⟨some 10, .mv (.tmp 0), none, [], []⟩,
 ⟨some 11, .call true i_cut_indices [(.tmp 10)], none, [], []⟩,
 ⟨some 4, .mv (.tmp 11), none, [], []⟩])
  (.ghost (.kill [10, 11])))
  (.seq (.region false [
 ⟨some 5, .mv (.cst (.bool true)), none, [], []⟩])
  (.seq .skip
  (.seq (.block 0 (.loop cut_reach.b0))
  cut_reach.c0)))))
def cut_reach.k2 : List Item := [.inBlock 4, .code cut_reach.c2, .inBlock 3, .code cut_reach.c1, .inLoop cut_reach.b1, .inBlock 2, .code (.ghost (.kill [13, 14])), .inBlock 1, .inLoop cut_reach.b0, .inBlock 0, .code cut_reach.c0]
def cut_reach.k1 : List Item := [.inBlock 2, .code (.ghost (.kill [13, 14])), .inBlock 1, .inLoop cut_reach.b0, .inBlock 0, .code cut_reach.c0]
def cut_reach.k0 : List Item := [.inBlock 0, .code cut_reach.c0]
def cut_reach : AFunc := ⟨58, [], cut_reach.main⟩
/-- slices.Equal[[]int,int] -/
def slices_Equal_int.c0 : ACode := (.seq (.region false [
 ⟨some 4, .mv (.cst (.bool true)), none, [], []⟩])
  .ret)
def slices_Equal_int.c1 : ACode := (.ghost (.kill [0, 1, 12, 13, 14]))
def slices_Equal_int.b0 : ACode := (.seq (.region false [
 ⟨some 14, .bin .lss (.tmp 13) (.tmp 12), none, [], []⟩])
  (.seq (.cond (.tmp 14) .skip
  (.exit 0))
  (.seq (.seq (.block 1 (.seq (.seq (.region false [
 ⟨some 15, .mv (.tmp 13), none, [], []⟩,
 ⟨some 5, .mv (.tmp 15), none, [], []⟩])
  (.ghost (.kill [14, 15])))
  (.seq (.seq (.region true [
 ⟨some 16, .mv (.tmp 0), none, [], [0]⟩,
 ⟨some 17, .mv (.tmp 5), none, [], [5]⟩,
 ⟨some 18, .iaddr 1 (.tmp 16) (.tmp 17), none, [0, 1], [16, 17]⟩,
 ⟨some 19, .load false 1 (.tmp 18), none, [2], [18]⟩,
 ⟨some 20, .mv (.tmp 1), none, [], [1]⟩,
 ⟨some 21, .mv (.tmp 5), none, [], [5]⟩,
 ⟨some 22, .iaddr 1 (.tmp 20) (.tmp 21), none, [4, 5], [20, 21]⟩,
 ⟨some 23, .load false 1 (.tmp 22), none, [6], [22]⟩,
 ⟨some 24, .bin .neq (.tmp 19) (.tmp 23), none, [3, 7], [19, 23]⟩])
  (.ghost (.kill [5, 16, 17, 18, 19, 20, 21, 22, 23])))
  (.cond (.tmp 24) (.seq (.region false [
      ⟨some 4, .mv (.cst (.bool false)), none, [], []⟩])
    .ret)
  .skip))))
  (.ghost (.kill [24])))
  (.seq (.region false [
 ⟨some 25, .bin .add (.tmp 13) (.cst (.int .i64 1)), none, [], []⟩,
 ⟨some 13, .mv (.tmp 25), none, [], []⟩])
  (.ghost (.kill [25]))))))
def slices_Equal_int.main : ACode := (.seq (.seq (.region false [
 ⟨some 4, .mv (.cst (.bool false)), none, [], []⟩])
  (.ghost (.kill [4])))
  (.seq (.seq (.seq (.region false [
 ⟨some 6, .mv (.tmp 0), none, [], []⟩,
 ⟨some 7, .len .sl (.tmp 6), none, [], []⟩,
 ⟨some 8, .mv (.tmp 1), none, [], []⟩,
 ⟨some 9, .len .sl (.tmp 8), none, [], []⟩,
 ⟨some 10, .bin .neq (.tmp 7) (.tmp 9), none, [], []⟩])
  (.ghost (.kill [6, 7, 8, 9])))
  (.cond (.tmp 10) (.seq (.region false [
      ⟨some 4, .mv (.cst (.bool false)), none, [], []⟩])
    .ret)
  .skip))
  (.seq (.seq (.seq (.region false [
 ⟨some 11, .mv (.tmp 0), none, [], []⟩,
 ⟨some 12, .len .sl (.tmp 11), none, [], []⟩,
 ⟨some 13, .mv (.cst (.int .i64 0)), none, [], []⟩])
  (.ghost (.kill [10, 11])))
  (.seq (.block 0 (.loop slices_Equal_int.b0))
  slices_Equal_int.c1))
  slices_Equal_int.c0)))
def slices_Equal_int.k0 : List Item := [.inBlock 0, .code slices_Equal_int.c1, .code slices_Equal_int.c0]
def slices_Equal_int : AFunc := ⟨26, [.tmp 4], slices_Equal_int.main⟩
/-- slices.pdqsortCmpFunc[int] -/
def slices_pdqsortCmpFunc_int.c0 : ACode := (.seq (.seq (.seq (.region true [
 ⟨some 81, .mv (.tmp 1), none, [], [1]⟩,
 ⟨some 82, .bin .gtr (.tmp 81) (.cst (.int .i64 0)), none, [0], [81]⟩,
 ⟨some 83, .mv (.tmp 82), none, [1], [82]⟩,
 ⟨some 84, .mv (.tmp 4), (some ((some 83), true)), [2], [4]⟩,
 ⟨some 85, .mv (.tmp 0), (some ((some 83), true)), [2], [0]⟩,
 ⟨some 86, .mv (.tmp 1), (some ((some 83), true)), [2], [1]⟩,
 ⟨some 87, .bin .sub (.tmp 86) (.cst (.int .i64 1)), (some ((some 83), true)), [5, 2], [86]⟩,
 ⟨some 88, .iaddr 1 (.tmp 85) (.tmp 87), (some ((some 83), true)), [4, 6, 2], [85, 87]⟩,
 ⟨some 89, .load false 1 (.tmp 88), (some ((some 83), true)), [7, 2], [88]⟩,
 ⟨some 90, .mv (.tmp 0), (some ((some 83), true)), [2], [0]⟩,
 ⟨some 91, .mv (.tmp 13), (some ((some 83), true)), [2], [13]⟩,
 ⟨some 92, .iaddr 1 (.tmp 90) (.tmp 91), (some ((some 83), true)), [9, 10, 2], [90, 91]⟩,
 ⟨some 93, .load false 1 (.tmp 92), (some ((some 83), true)), [11, 2], [92]⟩,
 ⟨some 94, .callv true (.tmp 84) [(.tmp 89), (.tmp 93)], (some ((some 83), true)), [3, 8, 12, 2, 2], [84, 89, 93]⟩,
 ⟨some 95, .bin .lss (.tmp 94) (.cst (.int .i64 0)), (some ((some 83), true)), [13, 2], [94]⟩,
 ⟨some 96, .un .not (.tmp 95), (some ((some 83), true)), [14, 2], [95]⟩,
 ⟨some 97, .pick (.tmp 83) (.tmp 96) (.cst (.bool false)), none, [2, 15], [83, 96]⟩])
  (.ghost (.kill [81, 82, 83, 84, 85, 86, 87, 88, 89, 90, 91, 92, 93, 94, 95, 96])))
  (.cond (.tmp 97) (.seq (.seq (.region false [
      ⟨some 98, .mv (.tmp 0), none, [], []⟩,
      ⟨some 99, .mv (.tmp 1), none, [], []⟩,
      ⟨some 100, .mv (.tmp 2), none, [], []⟩,
      ⟨some 101, .mv (.tmp 13), none, [], []⟩,
      ⟨some 102, .mv (.tmp 4), none, [], []⟩,
      ⟨some 103, .call false i_slices_partitionEqualCmpFunc_int [(.tmp 98), (.tmp 99), (.tmp 100), (.tmp 101), (.tmp 102)], none, [], []⟩,
      ⟨some 15, .mv (.tmp 103), none, [], []⟩])
    (.ghost (.kill [1, 12, 13, 97, 98, 99, 100, 101, 102, 103])))
    (.seq (.seq (.region false [
      ⟨some 104, .mv (.tmp 15), none, [], []⟩,
      ⟨some 1, .mv (.tmp 104), none, [], []⟩])
    (.ghost (.kill [15, 104])))
    (.exit 1)))
  .skip))
  (.seq (.seq (.region false [
 ⟨some 106, .mv (.tmp 0), none, [], []⟩,
 ⟨some 107, .mv (.tmp 1), none, [], []⟩,
 ⟨some 108, .mv (.tmp 2), none, [], []⟩,
 ⟨some 109, .mv (.tmp 13), none, [], []⟩,
 ⟨some 110, .mv (.tmp 4), none, [], []⟩,
 ⟨some 111, .call false i_slices_partitionCmpFunc_int [(.tmp 106), (.tmp 107), (.tmp 108), (.tmp 109), (.tmp 110)], none, [], []⟩,
 ⟨some 105, .mv (.tmp 111), none, [], []⟩,
 ⟨some 112, .extr (.tmp 105) 0, none, [], []⟩,
 ⟨some 113, .extr (.tmp 105) 1, none, [], []⟩,
 ⟨some 16, .mv (.tmp 112), none, [], []⟩,
 ⟨some 17, .mv (.tmp 113), none, [], []⟩])
  (.ghost (.kill [10, 11, 13, 97, 105, 106, 107, 108, 109, 110, 111, 112, 113])))
  (.seq (.seq (.region false [
 ⟨some 114, .mv (.tmp 17), none, [], []⟩,
 ⟨some 11, .mv (.tmp 114), none, [], []⟩])
  (.ghost (.kill [17, 114])))
  (.seq (.seq (.region false [
 ⟨some 115, .mv (.tmp 16), none, [], []⟩,
 ⟨some 116, .mv (.tmp 1), none, [], []⟩,
 ⟨some 117, .bin .sub (.tmp 115) (.tmp 116), none, [], []⟩,
 ⟨some 118, .mv (.tmp 2), none, [], []⟩,
 ⟨some 119, .mv (.tmp 16), none, [], []⟩,
 ⟨some 120, .bin .sub (.tmp 118) (.tmp 119), none, [], []⟩,
 ⟨some 18, .mv (.tmp 117), none, [], []⟩,
 ⟨some 19, .mv (.tmp 120), none, [], []⟩])
  (.ghost (.kill [115, 116, 117, 118, 119, 120])))
  (.seq (.seq (.region false [
 ⟨some 121, .mv (.tmp 12), none, [], []⟩,
 ⟨some 122, .bin .quo (.tmp 121) (.cst (.int .i64 8)), none, [], []⟩,
 ⟨some 20, .mv (.tmp 122), none, [], []⟩])
  (.ghost (.kill [12, 121, 122])))
  (.seq (.seq (.region false [
 ⟨some 123, .mv (.tmp 18), none, [], []⟩,
 ⟨some 124, .mv (.tmp 19), none, [], []⟩,
 ⟨some 125, .bin .lss (.tmp 123) (.tmp 124), none, [], []⟩])
  (.ghost (.kill [123, 124])))
  (.cond (.tmp 125) (.seq (.seq (.region false [
      ⟨some 126, .mv (.tmp 18), none, [], []⟩,
      ⟨some 127, .mv (.tmp 20), none, [], []⟩,
      ⟨some 128, .bin .geq (.tmp 126) (.tmp 127), none, [], []⟩,
      ⟨some 10, .mv (.tmp 128), none, [], []⟩])
    (.ghost (.kill [18, 19, 20, 125, 126, 127, 128])))
    (.seq (.seq (.region false [
      ⟨some 129, .mv (.tmp 0), none, [], []⟩,
      ⟨some 130, .mv (.tmp 1), none, [], []⟩,
      ⟨some 131, .mv (.tmp 16), none, [], []⟩,
      ⟨some 132, .mv (.tmp 3), none, [], []⟩,
      ⟨some 133, .mv (.tmp 4), none, [], []⟩,
      ⟨some 134, .call false i_slices_pdqsortCmpFunc_int [(.tmp 129), (.tmp 130), (.tmp 131), (.tmp 132), (.tmp 133)], none, [], []⟩])
    (.ghost (.kill [1, 129, 130, 131, 132, 133, 134])))
    (.seq (.region false [
      ⟨some 135, .mv (.tmp 16), none, [], []⟩,
      ⟨some 136, .bin .add (.tmp 135) (.cst (.int .i64 1)), none, [], []⟩,
      ⟨some 1, .mv (.tmp 136), none, [], []⟩])
    (.ghost (.kill [16, 135, 136])))))
  (.seq (.seq (.region false [
      ⟨some 137, .mv (.tmp 19), none, [], []⟩,
      ⟨some 138, .mv (.tmp 20), none, [], []⟩,
      ⟨some 139, .bin .geq (.tmp 137) (.tmp 138), none, [], []⟩,
      ⟨some 10, .mv (.tmp 139), none, [], []⟩])
    (.ghost (.kill [18, 19, 20, 125, 137, 138, 139])))
    (.seq (.seq (.region false [
      ⟨some 140, .mv (.tmp 0), none, [], []⟩,
      ⟨some 141, .mv (.tmp 16), none, [], []⟩,
      ⟨some 142, .bin .add (.tmp 141) (.cst (.int .i64 1)), none, [], []⟩,
      ⟨some 143, .mv (.tmp 2), none, [], []⟩,
      ⟨some 144, .mv (.tmp 3), none, [], []⟩,
      ⟨some 145, .mv (.tmp 4), none, [], []⟩,
      ⟨some 146, .call false i_slices_pdqsortCmpFunc_int [(.tmp 140), (.tmp 142), (.tmp 143), (.tmp 144), (.tmp 145)], none, [], []⟩])
    (.ghost (.kill [2, 140, 141, 142, 143, 144, 145, 146])))
    (.seq (.region false [
      ⟨some 147, .mv (.tmp 16), none, [], []⟩,
      ⟨some 2, .mv (.tmp 147), none, [], []⟩])
    (.ghost (.kill [16, 147]))))))))))))
def slices_pdqsortCmpFunc_int.c1 : ACode := (.seq (.seq (.seq (.region false [
 ⟨some 68, .mv (.tmp 10), none, [], []⟩,
 ⟨some 69, .mv (.tmp 68), none, [], []⟩,
 ⟨some 70, .mv (.tmp 11), (some ((some 69), true)), [], []⟩,
 ⟨some 71, .pick (.tmp 69) (.tmp 70) (.cst (.bool false)), none, [], []⟩,
 ⟨some 72, .mv (.tmp 71), none, [], []⟩,
 ⟨some 73, .mv (.tmp 14), (some ((some 72), true)), [], []⟩,
 ⟨some 74, .bin .eql (.tmp 73) (.cst (.int .i64 1)), (some ((some 72), true)), [], []⟩,
 ⟨some 75, .pick (.tmp 72) (.tmp 74) (.cst (.bool false)), none, [], []⟩])
  (.ghost (.kill [14, 68, 69, 70, 71, 72, 73, 74])))
  (.seq (.cond (.tmp 75) (.seq (.seq (.region false [
      ⟨some 76, .mv (.tmp 0), none, [], []⟩,
      ⟨some 77, .mv (.tmp 1), none, [], []⟩,
      ⟨some 78, .mv (.tmp 2), none, [], []⟩,
      ⟨some 79, .mv (.tmp 4), none, [], []⟩,
      ⟨some 80, .call false i_slices_partialInsertionSortCmpFunc_int [(.tmp 76), (.tmp 77), (.tmp 78), (.tmp 79)], none, [], []⟩])
    (.ghost (.kill [75, 76, 77, 78, 79])))
    (.cond (.tmp 80) .ret
    .skip))
  .skip)
  (.ghost (.kill [75, 80]))))
  slices_pdqsortCmpFunc_int.c0)
def slices_pdqsortCmpFunc_int.c2 : ACode := (.seq (.seq (.region false [
 ⟨some 48, .mv (.tmp 0), none, [], []⟩,
 ⟨some 49, .mv (.tmp 1), none, [], []⟩,
 ⟨some 50, .mv (.tmp 2), none, [], []⟩,
 ⟨some 51, .mv (.tmp 4), none, [], []⟩,
 ⟨some 52, .call false i_slices_choosePivotCmpFunc_int [(.tmp 48), (.tmp 49), (.tmp 50), (.tmp 51)], none, [], []⟩,
 ⟨some 47, .mv (.tmp 52), none, [], []⟩,
 ⟨some 53, .extr (.tmp 47) 0, none, [], []⟩,
 ⟨some 54, .extr (.tmp 47) 1, none, [], []⟩,
 ⟨some 13, .mv (.tmp 53), none, [], []⟩,
 ⟨some 14, .mv (.tmp 54), none, [], []⟩])
  (.ghost (.kill [47, 48, 49, 50, 51, 52, 53, 54])))
  (.seq (.seq (.seq (.region false [
 ⟨some 55, .mv (.tmp 14), none, [], []⟩,
 ⟨some 56, .bin .eql (.tmp 55) (.cst (.int .i64 2)), none, [], []⟩])
  (.ghost (.kill [55])))
  (.seq (.cond (.tmp 56) (.seq (.seq (.region false [
      ⟨some 57, .mv (.tmp 0), none, [], []⟩,
      ⟨some 58, .mv (.tmp 1), none, [], []⟩,
      ⟨some 59, .mv (.tmp 2), none, [], []⟩,
      ⟨some 60, .mv (.tmp 4), none, [], []⟩,
      ⟨some 61, .call false i_slices_reverseRangeCmpFunc_int [(.tmp 57), (.tmp 58), (.tmp 59), (.tmp 60)], none, [], []⟩])
    (.ghost (.kill [14, 56, 57, 58, 59, 60, 61])))
    (.seq (.seq (.region false [
      ⟨some 62, .mv (.tmp 2), none, [], []⟩,
      ⟨some 63, .bin .sub (.tmp 62) (.cst (.int .i64 1)), none, [], []⟩,
      ⟨some 64, .mv (.tmp 13), none, [], []⟩,
      ⟨some 65, .mv (.tmp 1), none, [], []⟩,
      ⟨some 66, .bin .sub (.tmp 64) (.tmp 65), none, [], []⟩,
      ⟨some 67, .bin .sub (.tmp 63) (.tmp 66), none, [], []⟩,
      ⟨some 13, .mv (.tmp 67), none, [], []⟩])
    (.ghost (.kill [62, 63, 64, 65, 66, 67])))
    (.region false [
      ⟨some 14, .mv (.cst (.int .i64 1)), none, [], []⟩])))
  .skip)
  (.ghost (.kill [56]))))
  slices_pdqsortCmpFunc_int.c1))
def slices_pdqsortCmpFunc_int.b0 : ACode := (.trunc (.block 1 (.seq (.seq (.region false [
 ⟨some 21, .mv (.tmp 2), none, [], []⟩,
 ⟨some 22, .mv (.tmp 1), none, [], []⟩,
 ⟨some 23, .bin .sub (.tmp 21) (.tmp 22), none, [], []⟩,
 ⟨some 12, .mv (.tmp 23), none, [], []⟩])
  (.ghost (.kill [21, 22, 23])))
  (.seq (.seq (.seq (.region false [
 ⟨some 24, .mv (.tmp 12), none, [], []⟩,
 ⟨some 25, .bin .leq (.tmp 24) (.cst (.int .i64 12)), none, [], []⟩])
  (.ghost (.kill [24])))
  (.cond (.tmp 25) (.seq (.region false [
      ⟨some 26, .mv (.tmp 0), none, [], []⟩,
      ⟨some 27, .mv (.tmp 1), none, [], []⟩,
      ⟨some 28, .mv (.tmp 2), none, [], []⟩,
      ⟨some 29, .mv (.tmp 4), none, [], []⟩,
      ⟨some 30, .call false i_slices_insertionSortCmpFunc_int [(.tmp 26), (.tmp 27), (.tmp 28), (.tmp 29)], none, [], []⟩])
    .ret)
  .skip))
  (.seq (.seq (.seq (.region false [
 ⟨some 31, .mv (.tmp 3), none, [], []⟩,
 ⟨some 32, .bin .eql (.tmp 31) (.cst (.int .i64 0)), none, [], []⟩])
  (.ghost (.kill [25, 31])))
  (.cond (.tmp 32) (.seq (.region false [
      ⟨some 33, .mv (.tmp 0), none, [], []⟩,
      ⟨some 34, .mv (.tmp 1), none, [], []⟩,
      ⟨some 35, .mv (.tmp 2), none, [], []⟩,
      ⟨some 36, .mv (.tmp 4), none, [], []⟩,
      ⟨some 37, .call false i_slices_heapSortCmpFunc_int [(.tmp 33), (.tmp 34), (.tmp 35), (.tmp 36)], none, [], []⟩])
    .ret)
  .skip))
  (.seq (.seq (.seq (.region false [
 ⟨some 38, .mv (.tmp 10), none, [], []⟩,
 ⟨some 39, .un .not (.tmp 38), none, [], []⟩])
  (.ghost (.kill [32, 38])))
  (.seq (.cond (.tmp 39) (.seq (.seq (.region false [
      ⟨some 40, .mv (.tmp 0), none, [], []⟩,
      ⟨some 41, .mv (.tmp 1), none, [], []⟩,
      ⟨some 42, .mv (.tmp 2), none, [], []⟩,
      ⟨some 43, .mv (.tmp 4), none, [], []⟩,
      ⟨some 44, .call false i_slices_breakPatternsCmpFunc_int [(.tmp 40), (.tmp 41), (.tmp 42), (.tmp 43)], none, [], []⟩])
    (.ghost (.kill [39, 40, 41, 42, 43, 44])))
    (.seq (.region false [
      ⟨some 45, .mv (.tmp 3), none, [], []⟩,
      ⟨some 46, .bin .sub (.tmp 45) (.cst (.int .i64 1)), none, [], []⟩,
      ⟨some 3, .mv (.tmp 46), none, [], []⟩])
    (.ghost (.kill [45, 46]))))
  .skip)
  (.ghost (.kill [39]))))
  slices_pdqsortCmpFunc_int.c2))))))
def slices_pdqsortCmpFunc_int.main : ACode := (.seq (.region false [
 ⟨some 10, .mv (.cst (.bool true)), none, [], []⟩])
  (.seq (.region false [
 ⟨some 11, .mv (.cst (.bool true)), none, [], []⟩])
  (.block 0 (.loop slices_pdqsortCmpFunc_int.b0))))
def slices_pdqsortCmpFunc_int.k0 : List Item := [.inBlock 0]
def slices_pdqsortCmpFunc_int : AFunc := ⟨148, [], slices_pdqsortCmpFunc_int.main⟩
/-- math/bits.Len -/
def bits_Len.main : ACode := (.seq (.seq (.region false [
 ⟨some 2, .mv (.cst (.int .i64 0)), none, [], []⟩])
  (.ghost (.kill [2])))
  (.seq (.cond (.cst (.bool false)) (.seq (.region false [
      ⟨some 3, .mv (.tmp 0), none, [], []⟩,
      ⟨some 4, .conv .u32 (.tmp 3), none, [], []⟩,
      ⟨some 5, .call true i_bits_Len32 [(.tmp 4)], none, [], []⟩,
      ⟨some 2, .mv (.tmp 5), none, [], []⟩])
    .ret)
  .skip)
  (.seq (.region false [
 ⟨some 6, .mv (.tmp 0), none, [], []⟩,
 ⟨some 7, .call true i_bits_Len64 [(.tmp 6)], none, [], []⟩,
 ⟨some 2, .mv (.tmp 7), none, [], []⟩])
  .ret)))
def bits_Len : AFunc := ⟨8, [.tmp 2], bits_Len.main⟩
/-- cmp.Or[int] -/
def cmp_Or_int.c0 : ACode := (.seq (.region false [
 ⟨some 17, .mv (.tmp 3), none, [], []⟩,
 ⟨some 2, .mv (.tmp 17), none, [], []⟩])
  .ret)
def cmp_Or_int.b0 : ACode := (.seq (.region false [
 ⟨some 9, .bin .lss (.tmp 8) (.tmp 7), none, [], []⟩])
  (.seq (.cond (.tmp 9) .skip
  (.exit 0))
  (.seq (.seq (.block 1 (.seq (.seq (.region false [
 ⟨some 10, .iaddr 1 (.tmp 6) (.tmp 8), none, [], []⟩,
 ⟨some 11, .load false 1 (.tmp 10), none, [], []⟩,
 ⟨some 5, .mv (.tmp 11), none, [], []⟩])
  (.ghost (.kill [9, 10, 11])))
  (.seq (.seq (.region false [
 ⟨some 12, .mv (.tmp 5), none, [], []⟩,
 ⟨some 13, .mv (.tmp 3), none, [], []⟩,
 ⟨some 14, .bin .neq (.tmp 12) (.tmp 13), none, [], []⟩])
  (.ghost (.kill [12, 13])))
  (.cond (.tmp 14) (.seq (.region false [
      ⟨some 15, .mv (.tmp 5), none, [], []⟩,
      ⟨some 2, .mv (.tmp 15), none, [], []⟩])
    .ret)
  .skip))))
  (.ghost (.kill [5, 14])))
  (.seq (.region false [
 ⟨some 16, .bin .add (.tmp 8) (.cst (.int .i64 1)), none, [], []⟩,
 ⟨some 8, .mv (.tmp 16), none, [], []⟩])
  (.ghost (.kill [16]))))))
def cmp_Or_int.main : ACode := (.seq (.seq (.region false [
 ⟨some 2, .mv (.cst (.int .i64 0)), none, [], []⟩])
  (.ghost (.kill [2])))
  (.seq (.region false [
 ⟨some 3, .mv (.cst (.int .i64 0)), none, [], []⟩])
  (.seq (.seq (.seq (.region false [
 ⟨some 6, .mv (.tmp 0), none, [], []⟩,
 ⟨some 7, .len .sl (.tmp 6), none, [], []⟩,
 ⟨some 8, .mv (.cst (.int .i64 0)), none, [], []⟩])
  (.ghost (.kill [0])))
  (.seq (.block 0 (.loop cmp_Or_int.b0))
  (.ghost (.kill [6, 7, 8, 9]))))
  cmp_Or_int.c0)))
def cmp_Or_int.k0 : List Item := [.inBlock 0, .code (.ghost (.kill [6, 7, 8, 9])), .code cmp_Or_int.c0]
def cmp_Or_int : AFunc := ⟨18, [.tmp 2], cmp_Or_int.main⟩
/-- cmp.Compare[int] -/
def cmp_Compare_int.main : ACode := (.seq (.seq (.region false [
 ⟨some 4, .mv (.cst (.int .i64 0)), none, [], []⟩])
  (.ghost (.kill [4])))
  (.seq (.seq (.region false [
 ⟨some 7, .mv (.tmp 0), none, [], []⟩,
 ⟨some 8, .call true i_cmp_isNaN_int [(.tmp 7)], none, [], []⟩,
 ⟨some 5, .mv (.tmp 8), none, [], []⟩])
  (.ghost (.kill [7, 8])))
  (.seq (.seq (.region false [
 ⟨some 9, .mv (.tmp 1), none, [], []⟩,
 ⟨some 10, .call true i_cmp_isNaN_int [(.tmp 9)], none, [], []⟩,
 ⟨some 6, .mv (.tmp 10), none, [], []⟩])
  (.ghost (.kill [9, 10])))
  (.seq (.seq (.seq (.region false [
 ⟨some 11, .mv (.tmp 5), none, [], []⟩])
  (.ghost (.kill [5])))
  (.cond (.tmp 11) (.seq (.seq (.seq (.region false [
      ⟨some 12, .mv (.tmp 6), none, [], []⟩])
    (.ghost (.kill [0, 1, 6, 11])))
    (.cond (.tmp 12) (.seq (.region false [
        ⟨some 4, .mv (.cst (.int .i64 0)), none, [], []⟩])
      .ret)
    .skip))
    (.seq (.region false [
      ⟨some 4, .mv (.cst (.int .i64 (-1))), none, [], []⟩])
    .ret))
  .skip))
  (.seq (.seq (.seq (.region false [
 ⟨some 13, .mv (.tmp 6), none, [], []⟩])
  (.ghost (.kill [6, 11])))
  (.cond (.tmp 13) (.seq (.region false [
      ⟨some 4, .mv (.cst (.int .i64 1)), none, [], []⟩])
    .ret)
  .skip))
  (.seq (.seq (.seq (.region false [
 ⟨some 14, .mv (.tmp 0), none, [], []⟩,
 ⟨some 15, .mv (.tmp 1), none, [], []⟩,
 ⟨some 16, .bin .lss (.tmp 14) (.tmp 15), none, [], []⟩])
  (.ghost (.kill [13, 14, 15])))
  (.cond (.tmp 16) (.seq (.region false [
      ⟨some 4, .mv (.cst (.int .i64 (-1))), none, [], []⟩])
    .ret)
  .skip))
  (.seq (.seq (.seq (.region false [
 ⟨some 17, .mv (.tmp 0), none, [], []⟩,
 ⟨some 18, .mv (.tmp 1), none, [], []⟩,
 ⟨some 19, .bin .gtr (.tmp 17) (.tmp 18), none, [], []⟩])
  (.ghost (.kill [0, 1, 16, 17, 18])))
  (.cond (.tmp 19) (.seq (.region false [
      ⟨some 4, .mv (.cst (.int .i64 1)), none, [], []⟩])
    .ret)
  .skip))
  (.seq (.region false [
 ⟨some 4, .mv (.cst (.int .i64 0)), none, [], []⟩])
  .ret))))))))
def cmp_Compare_int : AFunc := ⟨20, [.tmp 4], cmp_Compare_int.main⟩
/-- chapman/cut.weight -/
def cut_weight.c0 : ACode := (.seq (.region false [
 ⟨some 17, .mv (.tmp 3), none, [], []⟩,
 ⟨some 2, .mv (.tmp 17), none, [], []⟩])
  .ret)
def cut_weight.c1 : ACode := (.ghost (.kill [7, 8, 9, 10]))
def cut_weight.b0 : ACode := (.seq (.region false [
 ⟨some 10, .bin .lss (.tmp 9) (.tmp 8), none, [], []⟩])
  (.seq (.cond (.tmp 10) .skip
  (.exit 0))
  (.seq (.block 1 (.seq (.seq (.region false [
 ⟨some 11, .iaddr 1 (.tmp 7) (.tmp 9), none, [], []⟩,
 ⟨some 12, .load false 1 (.tmp 11), none, [], []⟩,
 ⟨some 5, .mv (.tmp 12), none, [], []⟩])
  (.ghost (.kill [10, 11, 12])))
  (.seq (.region false [
 ⟨some 13, .mv (.tmp 3), none, [], []⟩,
 ⟨some 14, .mv (.tmp 5), none, [], []⟩,
 ⟨some 15, .bin .add (.tmp 13) (.tmp 14), none, [], []⟩,
 ⟨some 3, .mv (.tmp 15), none, [], []⟩])
  (.ghost (.kill [5, 13, 14, 15])))))
  (.seq (.region false [
 ⟨some 16, .bin .add (.tmp 9) (.cst (.int .i64 1)), none, [], []⟩,
 ⟨some 9, .mv (.tmp 16), none, [], []⟩])
  (.ghost (.kill [16]))))))
def cut_weight.main : ACode := (.seq (.seq (.region false [
 ⟨some 1, .box 5 (.tmp 0), none, [], []⟩,
 ⟨some 2, .mv (.cst (.int .i64 0)), none, [], []⟩])
  (.ghost (.kill [0, 2])))
  (.seq (.region false [
 ⟨some 3, .mv (.cst (.int .i64 0)), none, [], []⟩])
  (.seq (.seq (.seq (.region false [
 ⟨some 6, .faddr 2 (.tmp 1), none, [], []⟩,
 ⟨some 7, .load false 1 (.tmp 6), none, [], []⟩,
 ⟨some 8, .len .sl (.tmp 7), none, [], []⟩,
 ⟨some 9, .mv (.cst (.int .i64 0)), none, [], []⟩])
  (.ghost (.kill [1, 6])))
  (.seq (.block 0 (.loop cut_weight.b0))
  cut_weight.c1))
  cut_weight.c0)))
def cut_weight.k0 : List Item := [.inBlock 0, .code cut_weight.c1, .code cut_weight.c0]
def cut_weight : AFunc := ⟨18, [.tmp 2], cut_weight.main⟩
/-- slices.ContainsFunc[[]int,int] -/
def slices_ContainsFunc_int.main : ACode := (.seq (.seq (.region false [
 ⟨some 4, .mv (.cst (.bool false)), none, [], []⟩])
  (.ghost (.kill [4])))
  (.seq (.region false [
 ⟨some 5, .mv (.tmp 0), none, [], []⟩,
 ⟨some 6, .mv (.tmp 1), none, [], []⟩,
 ⟨some 7, .call true i_slices_IndexFunc_int [(.tmp 5), (.tmp 6)], none, [], []⟩,
 ⟨some 8, .bin .geq (.tmp 7) (.cst (.int .i64 0)), none, [], []⟩,
 ⟨some 4, .mv (.tmp 8), none, [], []⟩])
  .ret))
def slices_ContainsFunc_int : AFunc := ⟨9, [.tmp 4], slices_ContainsFunc_int.main⟩
/-- chapman/cut.Valid$1 -/
def cut_Valid_1.main : ACode := (.seq (.seq (.region false [
 ⟨some 2, .mv (.cst (.bool false)), none, [], []⟩])
  (.ghost (.kill [2])))
  (.seq (.region false [
 ⟨some 3, .mv (.tmp 0), none, [], []⟩,
 ⟨some 4, .bin .lss (.tmp 3) (.cst (.int .i64 0)), none, [], []⟩,
 ⟨some 5, .mv (.tmp 4), none, [], []⟩,
 ⟨some 6, .mv (.tmp 0), (some ((some 5), false)), [], []⟩,
 ⟨some 7, .bin .gtr (.tmp 6) (.cst (.int .i64 999)), (some ((some 5), false)), [], []⟩,
 ⟨some 8, .pick (.tmp 5) (.cst (.bool true)) (.tmp 7), none, [], []⟩,
 ⟨some 2, .mv (.tmp 8), none, [], []⟩])
  .ret))
def cut_Valid_1 : AFunc := ⟨9, [.tmp 2], cut_Valid_1.main⟩
/-- chapman/chapmanref20.WellFormed -/
def r20_WellFormed.main : ACode := (.seq (.seq (.region false [
 ⟨some 1, .box 5 (.tmp 0), none, [], []⟩,
 ⟨some 2, .mv (.cst (.bool false)), none, [], []⟩])
  (.ghost (.kill [0, 2])))
  (.seq (.seq (.region false [
 ⟨some 4, .faddr 0 (.tmp 1), none, [], []⟩,
 ⟨some 5, .load true 2 (.tmp 4), none, [], []⟩,
 ⟨some 3, .alloc [(.int .i64 0), (.int .i64 0)], none, [], []⟩,
 ⟨none, .store 2 (.tmp 3) (.tmp 5), none, [], []⟩])
  (.ghost (.kill [4, 5])))
  (.seq (.region true [
 ⟨some 6, .faddr 0 (.tmp 3), none, [], [3]⟩,
 ⟨some 7, .load false 1 (.tmp 6), none, [0], [6]⟩,
 ⟨some 8, .bin .geq (.tmp 7) (.cst (.int .i64 0)), none, [1], [7]⟩,
 ⟨some 9, .mv (.tmp 8), none, [2], [8]⟩,
 ⟨some 10, .faddr 0 (.tmp 3), (some ((some 9), true)), [3], [3]⟩,
 ⟨some 11, .load false 1 (.tmp 10), (some ((some 9), true)), [4, 3], [10]⟩,
 ⟨some 12, .bin .lss (.tmp 11) (.cst (.int .i64 6)), (some ((some 9), true)), [5, 3], [11]⟩,
 ⟨some 13, .pick (.tmp 9) (.tmp 12) (.cst (.bool false)), none, [3, 6], [9, 12]⟩,
 ⟨some 14, .mv (.tmp 13), none, [7, 3], [13]⟩,
 ⟨some 15, .faddr 1 (.tmp 3), (some ((some 14), true)), [8], [3]⟩,
 ⟨some 16, .load false 1 (.tmp 15), (some ((some 14), true)), [9, 8], [15]⟩,
 ⟨some 17, .bin .geq (.tmp 16) (.cst (.int .i64 1)), (some ((some 14), true)), [10, 8], [16]⟩,
 ⟨some 18, .pick (.tmp 14) (.tmp 17) (.cst (.bool false)), none, [8, 11], [14, 17]⟩,
 ⟨some 19, .mv (.tmp 18), none, [12, 8], [18]⟩,
 ⟨some 20, .faddr 1 (.tmp 3), (some ((some 19), true)), [13], [3]⟩,
 ⟨some 21, .load false 1 (.tmp 20), (some ((some 19), true)), [14, 13], [20]⟩,
 ⟨some 22, .bin .leq (.tmp 21) (.cst (.int .i64 999)), (some ((some 19), true)), [15, 13], [21]⟩,
 ⟨some 23, .pick (.tmp 19) (.tmp 22) (.cst (.bool false)), none, [13, 16], [19, 22]⟩,
 ⟨some 24, .mv (.tmp 23), none, [17, 13], [23]⟩,
 ⟨some 25, .faddr 2 (.tmp 1), (some ((some 24), true)), [18], [1]⟩,
 ⟨some 26, .load false 1 (.tmp 25), (some ((some 24), true)), [19, 18], [25]⟩,
 ⟨some 27, .call true i_r20_Valid [(.tmp 26)], (some ((some 24), true)), [20, 18, 18], [26]⟩,
 ⟨some 28, .pick (.tmp 24) (.tmp 27) (.cst (.bool false)), none, [18, 21], [24, 27]⟩,
 ⟨some 29, .mv (.tmp 28), none, [22, 21], [28]⟩,
 ⟨some 30, .faddr 2 (.tmp 1), (some ((some 29), true)), [23], [1]⟩,
 ⟨some 31, .load false 1 (.tmp 30), (some ((some 29), true)), [24, 23], [30]⟩,
 ⟨some 32, .faddr 0 (.tmp 3), (some ((some 29), true)), [23], [3]⟩,
 ⟨some 33, .load false 1 (.tmp 32), (some ((some 29), true)), [26, 23], [32]⟩,
 ⟨some 34, .iaddr 1 (.tmp 31) (.tmp 33), (some ((some 29), true)), [25, 27, 23], [31, 33]⟩,
 ⟨some 35, .load false 1 (.tmp 34), (some ((some 29), true)), [28, 23], [34]⟩,
 ⟨some 36, .faddr 1 (.tmp 3), (some ((some 29), true)), [23], [3]⟩,
 ⟨some 37, .load false 1 (.tmp 36), (some ((some 29), true)), [30, 23], [36]⟩,
 ⟨some 38, .bin .sub (.tmp 37) (.cst (.int .i64 1)), (some ((some 29), true)), [31, 23], [37]⟩,
 ⟨some 39, .bin .eql (.tmp 35) (.tmp 38), (some ((some 29), true)), [29, 32, 23], [35, 38]⟩,
 ⟨some 40, .pick (.tmp 29) (.tmp 39) (.cst (.bool false)), none, [23, 33], [29, 39]⟩,
 ⟨some 2, .mv (.tmp 40), none, [34, 23, 0, 1, 2, 3, 4, 5, 6, 7, 8, 9, 10, 11, 12, 13, 14, 15, 16, 17, 18, 19, 20, 21, 22, 23, 24, 25, 26, 27, 28, 29, 30, 31, 32, 33, 34], [40]⟩])
  .ret)))
def r20_WellFormed : AFunc := ⟨41, [.tmp 2], r20_WellFormed.main⟩
/-- slices.insertionSortCmpFunc[chapman/api.Commit] -/
def slices_insertionSortCmpFunc_Commit.c0 : ACode := (.ghost (.kill [0, 1, 2, 3, 8, 14]))
def slices_insertionSortCmpFunc_Commit.c1 : ACode := (.seq (.region false [
 ⟨some 15, .mv (.tmp 8), none, [], []⟩,
 ⟨some 16, .bin .add (.tmp 15) (.cst (.int .i64 1)), none, [], []⟩,
 ⟨some 8, .mv (.tmp 16), none, [], []⟩])
  (.ghost (.kill [15, 16])))
def slices_insertionSortCmpFunc_Commit.b1 : ACode := (.seq (.seq (.seq (.region true [
 ⟨some 18, .mv (.tmp 9), none, [], [9]⟩,
 ⟨some 19, .mv (.tmp 1), none, [], [1]⟩,
 ⟨some 20, .bin .gtr (.tmp 18) (.tmp 19), none, [0, 1], [18, 19]⟩,
 ⟨some 21, .mv (.tmp 20), none, [2], [20]⟩,
 ⟨some 22, .mv (.tmp 3), (some ((some 21), true)), [3], [3]⟩,
 ⟨some 23, .mv (.tmp 0), (some ((some 21), true)), [3], [0]⟩,
 ⟨some 24, .mv (.tmp 9), (some ((some 21), true)), [3], [9]⟩,
 ⟨some 25, .iaddr 5 (.tmp 23) (.tmp 24), (some ((some 21), true)), [5, 6, 3], [23, 24]⟩,
 ⟨some 26, .load true 5 (.tmp 25), (some ((some 21), true)), [7, 3], [25]⟩,
 ⟨some 27, .mv (.tmp 0), (some ((some 21), true)), [3], [0]⟩,
 ⟨some 28, .mv (.tmp 9), (some ((some 21), true)), [3], [9]⟩,
 ⟨some 29, .bin .sub (.tmp 28) (.cst (.int .i64 1)), (some ((some 21), true)), [10, 3], [28]⟩,
 ⟨some 30, .iaddr 5 (.tmp 27) (.tmp 29), (some ((some 21), true)), [9, 11, 3], [27, 29]⟩,
 ⟨some 31, .load true 5 (.tmp 30), (some ((some 21), true)), [12, 3], [30]⟩,
 ⟨some 32, .callv true (.tmp 22) [(.tmp 26), (.tmp 31)], (some ((some 21), true)), [4, 8, 13, 3, 3], [22, 26, 31]⟩,
 ⟨some 33, .bin .lss (.tmp 32) (.cst (.int .i64 0)), (some ((some 21), true)), [14, 3], [32]⟩,
 ⟨some 34, .pick (.tmp 21) (.tmp 33) (.cst (.bool false)), none, [3, 15], [21, 33]⟩])
  (.ghost (.kill [18, 19, 20, 21, 22, 23, 24, 25, 26, 27, 28, 29, 30, 31, 32, 33])))
  (.cond (.tmp 34) .skip
  (.exit 2)))
  (.seq (.block 3 (.seq (.region true [
 ⟨some 37, .mv (.tmp 0), none, [], [0]⟩,
 ⟨some 38, .mv (.tmp 9), none, [], [9]⟩,
 ⟨some 39, .mv (.tmp 0), none, [], [0]⟩,
 ⟨some 40, .mv (.tmp 9), none, [], [9]⟩,
 ⟨some 41, .bin .sub (.tmp 40) (.cst (.int .i64 1)), none, [3], [40]⟩,
 ⟨some 42, .mv (.tmp 0), none, [], [0]⟩,
 ⟨some 43, .mv (.tmp 9), none, [], [9]⟩,
 ⟨some 44, .bin .sub (.tmp 43) (.cst (.int .i64 1)), none, [6], [43]⟩,
 ⟨some 45, .iaddr 5 (.tmp 42) (.tmp 44), none, [5, 7], [42, 44]⟩,
 ⟨some 46, .load true 5 (.tmp 45), none, [8], [45]⟩,
 ⟨some 47, .mv (.tmp 0), none, [], [0]⟩,
 ⟨some 48, .mv (.tmp 9), none, [], [9]⟩,
 ⟨some 49, .iaddr 5 (.tmp 47) (.tmp 48), none, [10, 11], [47, 48]⟩,
 ⟨some 50, .load true 5 (.tmp 49), none, [12], [49]⟩,
 ⟨some 51, .iaddr 5 (.tmp 37) (.tmp 38), none, [0, 1, 0, 1, 5, 6, 7, 8, 9, 13], [37, 38]⟩,
 ⟨none, .store 5 (.tmp 51) (.tmp 46), none, [14, 9, 0, 1, 5, 6, 7, 8, 9, 13], [51, 46]⟩,
 ⟨some 52, .iaddr 5 (.tmp 39) (.tmp 41), none, [2, 4, 0, 1, 2, 3, 4, 5, 6, 7, 8, 9, 10, 11, 12, 13, 14, 15], [39, 41]⟩,
 ⟨none, .store 5 (.tmp 52) (.tmp 50), none, [16, 13, 15, 0, 1, 2, 3, 4, 5, 6, 7, 8, 9, 10, 11, 12, 13, 14, 15], [52, 50]⟩])
  (.ghost (.kill [34, 37, 38, 39, 40, 41, 42, 43, 44, 45, 46, 47, 48, 49, 50, 51, 52]))))
  (.seq (.region false [
 ⟨some 35, .mv (.tmp 9), none, [], []⟩,
 ⟨some 36, .bin .sub (.tmp 35) (.cst (.int .i64 1)), none, [], []⟩,
 ⟨some 9, .mv (.tmp 36), none, [], []⟩])
  (.ghost (.kill [35, 36])))))
def slices_insertionSortCmpFunc_Commit.b0 : ACode := (.seq (.seq (.seq (.region false [
 ⟨some 12, .mv (.tmp 8), none, [], []⟩,
 ⟨some 13, .mv (.tmp 2), none, [], []⟩,
 ⟨some 14, .bin .lss (.tmp 12) (.tmp 13), none, [], []⟩])
  (.ghost (.kill [12, 13])))
  (.cond (.tmp 14) .skip
  (.exit 0)))
  (.seq (.block 1 (.seq (.seq (.region false [
 ⟨some 17, .mv (.tmp 8), none, [], []⟩,
 ⟨some 9, .mv (.tmp 17), none, [], []⟩])
  (.ghost (.kill [14, 17])))
  (.seq (.block 2 (.loop slices_insertionSortCmpFunc_Commit.b1))
  (.ghost (.kill [9, 34])))))
  slices_insertionSortCmpFunc_Commit.c1))
def slices_insertionSortCmpFunc_Commit.main : ACode := (.seq (.seq (.region false [
 ⟨some 10, .mv (.tmp 1), none, [], []⟩,
 ⟨some 11, .bin .add (.tmp 10) (.cst (.int .i64 1)), none, [], []⟩,
 ⟨some 8, .mv (.tmp 11), none, [], []⟩])
  (.ghost (.kill [10, 11])))
  (.seq (.block 0 (.loop slices_insertionSortCmpFunc_Commit.b0))
  slices_insertionSortCmpFunc_Commit.c0))
def slices_insertionSortCmpFunc_Commit.k1 : List Item := [.inBlock 2, .code (.ghost (.kill [9, 34])), .inBlock 1, .code slices_insertionSortCmpFunc_Commit.c1, .inLoop slices_insertionSortCmpFunc_Commit.b0, .inBlock 0, .code slices_insertionSortCmpFunc_Commit.c0]
def slices_insertionSortCmpFunc_Commit.k0 : List Item := [.inBlock 0, .code slices_insertionSortCmpFunc_Commit.c0]
def slices_insertionSortCmpFunc_Commit : AFunc := ⟨53, [], slices_insertionSortCmpFunc_Commit.main⟩
/-- slices.symMergeCmpFunc[chapman/api.Commit] -/
def slices_symMergeCmpFunc_Commit.c0 : ACode := (.ghost (.kill [0, 3, 4, 18, 24, 213]))
def slices_symMergeCmpFunc_Commit.c1 : ACode := (.seq (.seq (.region false [
 ⟨some 206, .mv (.tmp 18), none, [], []⟩,
 ⟨some 207, .mv (.tmp 24), none, [], []⟩,
 ⟨some 208, .bin .lss (.tmp 206) (.tmp 207), none, [], []⟩,
 ⟨some 209, .mv (.tmp 208), none, [], []⟩,
 ⟨some 210, .mv (.tmp 24), (some ((some 209), true)), [], []⟩,
 ⟨some 211, .mv (.tmp 3), (some ((some 209), true)), [], []⟩,
 ⟨some 212, .bin .lss (.tmp 210) (.tmp 211), (some ((some 209), true)), [], []⟩,
 ⟨some 213, .pick (.tmp 209) (.tmp 212) (.cst (.bool false)), none, [], []⟩])
  (.ghost (.kill [206, 207, 208, 209, 210, 211, 212])))
  (.seq (.cond (.tmp 213) (.seq (.region false [
      ⟨some 214, .mv (.tmp 0), none, [], []⟩,
      ⟨some 215, .mv (.tmp 18), none, [], []⟩,
      ⟨some 216, .mv (.tmp 24), none, [], []⟩,
      ⟨some 217, .mv (.tmp 3), none, [], []⟩,
      ⟨some 218, .mv (.tmp 4), none, [], []⟩,
      ⟨some 219, .call false i_slices_symMergeCmpFunc_Commit [(.tmp 214), (.tmp 215), (.tmp 216), (.tmp 217), (.tmp 218)], none, [], []⟩])
    (.ghost (.kill [0, 3, 4, 18, 24, 213, 214, 215, 216, 217, 218, 219])))
  .skip)
  slices_symMergeCmpFunc_Commit.c0))
def slices_symMergeCmpFunc_Commit.c2 : ACode := (.seq (.seq (.seq (.region false [
 ⟨some 192, .mv (.tmp 1), none, [], []⟩,
 ⟨some 193, .mv (.tmp 20), none, [], []⟩,
 ⟨some 194, .bin .lss (.tmp 192) (.tmp 193), none, [], []⟩,
 ⟨some 195, .mv (.tmp 194), none, [], []⟩,
 ⟨some 196, .mv (.tmp 20), (some ((some 195), true)), [], []⟩,
 ⟨some 197, .mv (.tmp 18), (some ((some 195), true)), [], []⟩,
 ⟨some 198, .bin .lss (.tmp 196) (.tmp 197), (some ((some 195), true)), [], []⟩,
 ⟨some 199, .pick (.tmp 195) (.tmp 198) (.cst (.bool false)), none, [], []⟩])
  (.ghost (.kill [192, 193, 194, 195, 196, 197, 198])))
  (.seq (.cond (.tmp 199) (.seq (.region false [
      ⟨some 200, .mv (.tmp 0), none, [], []⟩,
      ⟨some 201, .mv (.tmp 1), none, [], []⟩,
      ⟨some 202, .mv (.tmp 20), none, [], []⟩,
      ⟨some 203, .mv (.tmp 18), none, [], []⟩,
      ⟨some 204, .mv (.tmp 4), none, [], []⟩,
      ⟨some 205, .call false i_slices_symMergeCmpFunc_Commit [(.tmp 200), (.tmp 201), (.tmp 202), (.tmp 203), (.tmp 204)], none, [], []⟩])
    (.ghost (.kill [1, 20, 199, 200, 201, 202, 203, 204, 205])))
  .skip)
  (.ghost (.kill [1, 20, 199]))))
  slices_symMergeCmpFunc_Commit.c1)
def slices_symMergeCmpFunc_Commit.c3 : ACode := (.seq (.seq (.region false [
 ⟨some 175, .mv (.tmp 19), none, [], []⟩,
 ⟨some 176, .mv (.tmp 20), none, [], []⟩,
 ⟨some 177, .bin .sub (.tmp 175) (.tmp 176), none, [], []⟩,
 ⟨some 24, .mv (.tmp 177), none, [], []⟩])
  (.ghost (.kill [19, 175, 176, 177])))
  (.seq (.seq (.seq (.region false [
 ⟨some 178, .mv (.tmp 20), none, [], []⟩,
 ⟨some 179, .mv (.tmp 2), none, [], []⟩,
 ⟨some 180, .bin .lss (.tmp 178) (.tmp 179), none, [], []⟩,
 ⟨some 181, .mv (.tmp 180), none, [], []⟩,
 ⟨some 182, .mv (.tmp 2), (some ((some 181), true)), [], []⟩,
 ⟨some 183, .mv (.tmp 24), (some ((some 181), true)), [], []⟩,
 ⟨some 184, .bin .lss (.tmp 182) (.tmp 183), (some ((some 181), true)), [], []⟩,
 ⟨some 185, .pick (.tmp 181) (.tmp 184) (.cst (.bool false)), none, [], []⟩])
  (.ghost (.kill [178, 179, 180, 181, 182, 183, 184])))
  (.seq (.cond (.tmp 185) (.seq (.region false [
      ⟨some 186, .mv (.tmp 0), none, [], []⟩,
      ⟨some 187, .mv (.tmp 20), none, [], []⟩,
      ⟨some 188, .mv (.tmp 2), none, [], []⟩,
      ⟨some 189, .mv (.tmp 24), none, [], []⟩,
      ⟨some 190, .mv (.tmp 4), none, [], []⟩,
      ⟨some 191, .call false i_slices_rotateCmpFunc_Commit [(.tmp 186), (.tmp 187), (.tmp 188), (.tmp 189), (.tmp 190)], none, [], []⟩])
    (.ghost (.kill [2, 185, 186, 187, 188, 189, 190, 191])))
  .skip)
  (.ghost (.kill [2, 185]))))
  slices_symMergeCmpFunc_Commit.c2))
def slices_symMergeCmpFunc_Commit.c4 : ACode := (.ghost (.kill [21, 22, 151]))
def slices_symMergeCmpFunc_Commit.b4 : ACode := (.seq (.seq (.seq (.region false [
 ⟨some 149, .mv (.tmp 20), none, [], []⟩,
 ⟨some 150, .mv (.tmp 21), none, [], []⟩,
 ⟨some 151, .bin .lss (.tmp 149) (.tmp 150), none, [], []⟩])
  (.ghost (.kill [149, 150])))
  (.cond (.tmp 151) .skip
  (.exit 8)))
  (.block 9 (.seq (.seq (.region false [
 ⟨some 152, .mv (.tmp 20), none, [], []⟩,
 ⟨some 153, .mv (.tmp 21), none, [], []⟩,
 ⟨some 154, .bin .add (.tmp 152) (.tmp 153), none, [], []⟩,
 ⟨some 155, .conv .u64 (.tmp 154), none, [], []⟩,
 ⟨some 156, .bin .shr (.tmp 155) (.cst (.int .u64 1)), none, [], []⟩,
 ⟨some 157, .conv .i64 (.tmp 156), none, [], []⟩,
 ⟨some 23, .mv (.tmp 157), none, [], []⟩])
  (.ghost (.kill [151, 152, 153, 154, 155, 156, 157])))
  (.seq (.seq (.region true [
 ⟨some 158, .mv (.tmp 4), none, [], [4]⟩,
 ⟨some 159, .mv (.tmp 0), none, [], [0]⟩,
 ⟨some 160, .mv (.tmp 22), none, [], [22]⟩,
 ⟨some 161, .mv (.tmp 23), none, [], [23]⟩,
 ⟨some 162, .bin .sub (.tmp 160) (.tmp 161), none, [2, 3], [160, 161]⟩,
 ⟨some 163, .iaddr 5 (.tmp 159) (.tmp 162), none, [1, 4], [159, 162]⟩,
 ⟨some 164, .load true 5 (.tmp 163), none, [5], [163]⟩,
 ⟨some 165, .mv (.tmp 0), none, [], [0]⟩,
 ⟨some 166, .mv (.tmp 23), none, [], [23]⟩,
 ⟨some 167, .iaddr 5 (.tmp 165) (.tmp 166), none, [7, 8], [165, 166]⟩,
 ⟨some 168, .load true 5 (.tmp 167), none, [9], [167]⟩,
 ⟨some 169, .callv true (.tmp 158) [(.tmp 164), (.tmp 168)], none, [0, 6, 10], [158, 164, 168]⟩,
 ⟨some 170, .bin .lss (.tmp 169) (.cst (.int .i64 0)), none, [11], [169]⟩,
 ⟨some 171, .un .not (.tmp 170), none, [12], [170]⟩])
  (.ghost (.kill [158, 159, 160, 161, 162, 163, 164, 165, 166, 167, 168, 169, 170])))
  (.cond (.tmp 171) (.seq (.region false [
      ⟨some 172, .mv (.tmp 23), none, [], []⟩,
      ⟨some 173, .bin .add (.tmp 172) (.cst (.int .i64 1)), none, [], []⟩,
      ⟨some 20, .mv (.tmp 173), none, [], []⟩])
    (.ghost (.kill [23, 171, 172, 173])))
  (.seq (.region false [
      ⟨some 174, .mv (.tmp 23), none, [], []⟩,
      ⟨some 21, .mv (.tmp 174), none, [], []⟩])
    (.ghost (.kill [23, 171, 174]))))))))
def slices_symMergeCmpFunc_Commit.c5 : ACode := (.seq (.seq (.region false [
 ⟨some 147, .mv (.tmp 19), none, [], []⟩,
 ⟨some 148, .bin .sub (.tmp 147) (.cst (.int .i64 1)), none, [], []⟩,
 ⟨some 22, .mv (.tmp 148), none, [], []⟩])
  (.ghost (.kill [147, 148])))
  (.seq (.seq (.block 8 (.loop slices_symMergeCmpFunc_Commit.b4))
  slices_symMergeCmpFunc_Commit.c4)
  slices_symMergeCmpFunc_Commit.c3))
def slices_symMergeCmpFunc_Commit.c6 : ACode := (.seq (.seq (.region false [
 ⟨some 129, .mv (.tmp 1), none, [], []⟩,
 ⟨some 130, .mv (.tmp 3), none, [], []⟩,
 ⟨some 131, .bin .add (.tmp 129) (.tmp 130), none, [], []⟩,
 ⟨some 132, .conv .u64 (.tmp 131), none, [], []⟩,
 ⟨some 133, .bin .shr (.tmp 132) (.cst (.int .u64 1)), none, [], []⟩,
 ⟨some 134, .conv .i64 (.tmp 133), none, [], []⟩,
 ⟨some 18, .mv (.tmp 134), none, [], []⟩])
  (.ghost (.kill [80, 129, 130, 131, 132, 133, 134])))
  (.seq (.seq (.region false [
 ⟨some 135, .mv (.tmp 18), none, [], []⟩,
 ⟨some 136, .mv (.tmp 2), none, [], []⟩,
 ⟨some 137, .bin .add (.tmp 135) (.tmp 136), none, [], []⟩,
 ⟨some 19, .mv (.tmp 137), none, [], []⟩])
  (.ghost (.kill [135, 136, 137])))
  (.seq (.seq (.region false [
 ⟨some 20, .mv (.cst (.int .i64 0)), none, [], []⟩,
 ⟨some 21, .mv (.cst (.int .i64 0)), none, [], []⟩])
  (.ghost (.kill [20, 21])))
  (.seq (.seq (.seq (.region false [
 ⟨some 138, .mv (.tmp 2), none, [], []⟩,
 ⟨some 139, .mv (.tmp 18), none, [], []⟩,
 ⟨some 140, .bin .gtr (.tmp 138) (.tmp 139), none, [], []⟩])
  (.ghost (.kill [138, 139])))
  (.cond (.tmp 140) (.seq (.seq (.region false [
      ⟨some 141, .mv (.tmp 19), none, [], []⟩,
      ⟨some 142, .mv (.tmp 3), none, [], []⟩,
      ⟨some 143, .bin .sub (.tmp 141) (.tmp 142), none, [], []⟩,
      ⟨some 20, .mv (.tmp 143), none, [], []⟩])
    (.ghost (.kill [140, 141, 142, 143])))
    (.seq (.region false [
      ⟨some 144, .mv (.tmp 18), none, [], []⟩,
      ⟨some 21, .mv (.tmp 144), none, [], []⟩])
    (.ghost (.kill [144]))))
  (.seq (.seq (.region false [
      ⟨some 145, .mv (.tmp 1), none, [], []⟩,
      ⟨some 20, .mv (.tmp 145), none, [], []⟩])
    (.ghost (.kill [140, 145])))
    (.seq (.region false [
      ⟨some 146, .mv (.tmp 2), none, [], []⟩,
      ⟨some 21, .mv (.tmp 146), none, [], []⟩])
    (.ghost (.kill [146]))))))
  slices_symMergeCmpFunc_Commit.c5))))
def slices_symMergeCmpFunc_Commit.c7 : ACode := (.ghost (.kill [0, 14, 17, 110]))
def slices_symMergeCmpFunc_Commit.b3 : ACode := (.seq (.seq (.seq (.region false [
 ⟨some 108, .mv (.tmp 17), none, [], []⟩,
 ⟨some 109, .mv (.tmp 14), none, [], []⟩,
 ⟨some 110, .bin .gtr (.tmp 108) (.tmp 109), none, [], []⟩])
  (.ghost (.kill [108, 109])))
  (.cond (.tmp 110) .skip
  (.exit 6)))
  (.seq (.block 7 (.seq (.region true [
 ⟨some 113, .mv (.tmp 0), none, [], [0]⟩,
 ⟨some 114, .mv (.tmp 17), none, [], [17]⟩,
 ⟨some 115, .mv (.tmp 0), none, [], [0]⟩,
 ⟨some 116, .mv (.tmp 17), none, [], [17]⟩,
 ⟨some 117, .bin .sub (.tmp 116) (.cst (.int .i64 1)), none, [3], [116]⟩,
 ⟨some 118, .mv (.tmp 0), none, [], [0]⟩,
 ⟨some 119, .mv (.tmp 17), none, [], [17]⟩,
 ⟨some 120, .bin .sub (.tmp 119) (.cst (.int .i64 1)), none, [6], [119]⟩,
 ⟨some 121, .iaddr 5 (.tmp 118) (.tmp 120), none, [5, 7], [118, 120]⟩,
 ⟨some 122, .load true 5 (.tmp 121), none, [8], [121]⟩,
 ⟨some 123, .mv (.tmp 0), none, [], [0]⟩,
 ⟨some 124, .mv (.tmp 17), none, [], [17]⟩,
 ⟨some 125, .iaddr 5 (.tmp 123) (.tmp 124), none, [10, 11], [123, 124]⟩,
 ⟨some 126, .load true 5 (.tmp 125), none, [12], [125]⟩,
 ⟨some 127, .iaddr 5 (.tmp 113) (.tmp 114), none, [0, 1, 0, 1, 5, 6, 7, 8, 9, 13], [113, 114]⟩,
 ⟨none, .store 5 (.tmp 127) (.tmp 122), none, [14, 9, 0, 1, 5, 6, 7, 8, 9, 13], [127, 122]⟩,
 ⟨some 128, .iaddr 5 (.tmp 115) (.tmp 117), none, [2, 4, 0, 1, 2, 3, 4, 5, 6, 7, 8, 9, 10, 11, 12, 13, 14, 15], [115, 117]⟩,
 ⟨none, .store 5 (.tmp 128) (.tmp 126), none, [16, 13, 15, 0, 1, 2, 3, 4, 5, 6, 7, 8, 9, 10, 11, 12, 13, 14, 15], [128, 126]⟩])
  (.ghost (.kill [110, 113, 114, 115, 116, 117, 118, 119, 120, 121, 122, 123, 124, 125, 126, 127, 128]))))
  (.seq (.region false [
 ⟨some 111, .mv (.tmp 17), none, [], []⟩,
 ⟨some 112, .bin .sub (.tmp 111) (.cst (.int .i64 1)), none, [], []⟩,
 ⟨some 17, .mv (.tmp 112), none, [], []⟩])
  (.ghost (.kill [111, 112])))))
def slices_symMergeCmpFunc_Commit.c8 : ACode := (.seq (.seq (.seq (.region false [
 ⟨some 107, .mv (.tmp 2), none, [], []⟩,
 ⟨some 17, .mv (.tmp 107), none, [], []⟩])
  (.ghost (.kill [2, 107])))
  (.seq (.block 6 (.loop slices_symMergeCmpFunc_Commit.b3))
  slices_symMergeCmpFunc_Commit.c7))
  .ret)
def slices_symMergeCmpFunc_Commit.b2 : ACode := (.seq (.seq (.seq (.region false [
 ⟨some 83, .mv (.tmp 14), none, [], []⟩,
 ⟨some 84, .mv (.tmp 15), none, [], []⟩,
 ⟨some 85, .bin .lss (.tmp 83) (.tmp 84), none, [], []⟩])
  (.ghost (.kill [83, 84])))
  (.cond (.tmp 85) .skip
  (.exit 4)))
  (.block 5 (.seq (.seq (.region false [
 ⟨some 86, .mv (.tmp 14), none, [], []⟩,
 ⟨some 87, .mv (.tmp 15), none, [], []⟩,
 ⟨some 88, .bin .add (.tmp 86) (.tmp 87), none, [], []⟩,
 ⟨some 89, .conv .u64 (.tmp 88), none, [], []⟩,
 ⟨some 90, .bin .shr (.tmp 89) (.cst (.int .u64 1)), none, [], []⟩,
 ⟨some 91, .conv .i64 (.tmp 90), none, [], []⟩,
 ⟨some 16, .mv (.tmp 91), none, [], []⟩])
  (.ghost (.kill [85, 86, 87, 88, 89, 90, 91])))
  (.seq (.seq (.region true [
 ⟨some 92, .mv (.tmp 4), none, [], [4]⟩,
 ⟨some 93, .mv (.tmp 0), none, [], [0]⟩,
 ⟨some 94, .mv (.tmp 2), none, [], [2]⟩,
 ⟨some 95, .iaddr 5 (.tmp 93) (.tmp 94), none, [1, 2], [93, 94]⟩,
 ⟨some 96, .load true 5 (.tmp 95), none, [3], [95]⟩,
 ⟨some 97, .mv (.tmp 0), none, [], [0]⟩,
 ⟨some 98, .mv (.tmp 16), none, [], [16]⟩,
 ⟨some 99, .iaddr 5 (.tmp 97) (.tmp 98), none, [5, 6], [97, 98]⟩,
 ⟨some 100, .load true 5 (.tmp 99), none, [7], [99]⟩,
 ⟨some 101, .callv true (.tmp 92) [(.tmp 96), (.tmp 100)], none, [0, 4, 8], [92, 96, 100]⟩,
 ⟨some 102, .bin .lss (.tmp 101) (.cst (.int .i64 0)), none, [9], [101]⟩,
 ⟨some 103, .un .not (.tmp 102), none, [10], [102]⟩])
  (.ghost (.kill [92, 93, 94, 95, 96, 97, 98, 99, 100, 101, 102])))
  (.cond (.tmp 103) (.seq (.region false [
      ⟨some 104, .mv (.tmp 16), none, [], []⟩,
      ⟨some 105, .bin .add (.tmp 104) (.cst (.int .i64 1)), none, [], []⟩,
      ⟨some 14, .mv (.tmp 105), none, [], []⟩])
    (.ghost (.kill [16, 103, 104, 105])))
  (.seq (.region false [
      ⟨some 106, .mv (.tmp 16), none, [], []⟩,
      ⟨some 15, .mv (.tmp 106), none, [], []⟩])
    (.ghost (.kill [16, 103, 106]))))))))
def slices_symMergeCmpFunc_Commit.c9 : ACode := (.seq (.seq (.seq (.region false [
 ⟨some 77, .mv (.tmp 3), none, [], []⟩,
 ⟨some 78, .mv (.tmp 2), none, [], []⟩,
 ⟨some 79, .bin .sub (.tmp 77) (.tmp 78), none, [], []⟩,
 ⟨some 80, .bin .eql (.tmp 79) (.cst (.int .i64 1)), none, [], []⟩])
  (.ghost (.kill [28, 77, 78, 79])))
  (.cond (.tmp 80) (.seq (.seq (.region false [
      ⟨some 81, .mv (.tmp 1), none, [], []⟩,
      ⟨some 14, .mv (.tmp 81), none, [], []⟩])
    (.ghost (.kill [1, 3, 80, 81])))
    (.seq (.seq (.region false [
      ⟨some 82, .mv (.tmp 2), none, [], []⟩,
      ⟨some 15, .mv (.tmp 82), none, [], []⟩])
    (.ghost (.kill [82])))
    (.seq (.seq (.block 4 (.loop slices_symMergeCmpFunc_Commit.b2))
    (.ghost (.kill [4, 15, 85])))
    slices_symMergeCmpFunc_Commit.c8)))
  .skip))
  slices_symMergeCmpFunc_Commit.c6)
def slices_symMergeCmpFunc_Commit.c10 : ACode := (.ghost (.kill [0, 10, 13, 58]))
def slices_symMergeCmpFunc_Commit.b1 : ACode := (.seq (.seq (.seq (.region false [
 ⟨some 55, .mv (.tmp 13), none, [], []⟩,
 ⟨some 56, .mv (.tmp 10), none, [], []⟩,
 ⟨some 57, .bin .sub (.tmp 56) (.cst (.int .i64 1)), none, [], []⟩,
 ⟨some 58, .bin .lss (.tmp 55) (.tmp 57), none, [], []⟩])
  (.ghost (.kill [55, 56, 57])))
  (.cond (.tmp 58) .skip
  (.exit 2)))
  (.seq (.block 3 (.seq (.region true [
 ⟨some 61, .mv (.tmp 0), none, [], [0]⟩,
 ⟨some 62, .mv (.tmp 13), none, [], [13]⟩,
 ⟨some 63, .mv (.tmp 0), none, [], [0]⟩,
 ⟨some 64, .mv (.tmp 13), none, [], [13]⟩,
 ⟨some 65, .bin .add (.tmp 64) (.cst (.int .i64 1)), none, [3], [64]⟩,
 ⟨some 66, .mv (.tmp 0), none, [], [0]⟩,
 ⟨some 67, .mv (.tmp 13), none, [], [13]⟩,
 ⟨some 68, .bin .add (.tmp 67) (.cst (.int .i64 1)), none, [6], [67]⟩,
 ⟨some 69, .iaddr 5 (.tmp 66) (.tmp 68), none, [5, 7], [66, 68]⟩,
 ⟨some 70, .load true 5 (.tmp 69), none, [8], [69]⟩,
 ⟨some 71, .mv (.tmp 0), none, [], [0]⟩,
 ⟨some 72, .mv (.tmp 13), none, [], [13]⟩,
 ⟨some 73, .iaddr 5 (.tmp 71) (.tmp 72), none, [10, 11], [71, 72]⟩,
 ⟨some 74, .load true 5 (.tmp 73), none, [12], [73]⟩,
 ⟨some 75, .iaddr 5 (.tmp 61) (.tmp 62), none, [0, 1, 0, 1, 5, 6, 7, 8, 9, 13], [61, 62]⟩,
 ⟨none, .store 5 (.tmp 75) (.tmp 70), none, [14, 9, 0, 1, 5, 6, 7, 8, 9, 13], [75, 70]⟩,
 ⟨some 76, .iaddr 5 (.tmp 63) (.tmp 65), none, [2, 4, 0, 1, 2, 3, 4, 5, 6, 7, 8, 9, 10, 11, 12, 13, 14, 15], [63, 65]⟩,
 ⟨none, .store 5 (.tmp 76) (.tmp 74), none, [16, 13, 15, 0, 1, 2, 3, 4, 5, 6, 7, 8, 9, 10, 11, 12, 13, 14, 15], [76, 74]⟩])
  (.ghost (.kill [58, 61, 62, 63, 64, 65, 66, 67, 68, 69, 70, 71, 72, 73, 74, 75, 76]))))
  (.seq (.region false [
 ⟨some 59, .mv (.tmp 13), none, [], []⟩,
 ⟨some 60, .bin .add (.tmp 59) (.cst (.int .i64 1)), none, [], []⟩,
 ⟨some 13, .mv (.tmp 60), none, [], []⟩])
  (.ghost (.kill [59, 60])))))
def slices_symMergeCmpFunc_Commit.c11 : ACode := (.seq (.seq (.seq (.region false [
 ⟨some 54, .mv (.tmp 1), none, [], []⟩,
 ⟨some 13, .mv (.tmp 54), none, [], []⟩])
  (.ghost (.kill [1, 54])))
  (.seq (.block 2 (.loop slices_symMergeCmpFunc_Commit.b1))
  slices_symMergeCmpFunc_Commit.c10))
  .ret)
def slices_symMergeCmpFunc_Commit.b0 : ACode := (.seq (.seq (.seq (.region false [
 ⟨some 31, .mv (.tmp 10), none, [], []⟩,
 ⟨some 32, .mv (.tmp 11), none, [], []⟩,
 ⟨some 33, .bin .lss (.tmp 31) (.tmp 32), none, [], []⟩])
  (.ghost (.kill [31, 32])))
  (.cond (.tmp 33) .skip
  (.exit 0)))
  (.block 1 (.seq (.seq (.region false [
 ⟨some 34, .mv (.tmp 10), none, [], []⟩,
 ⟨some 35, .mv (.tmp 11), none, [], []⟩,
 ⟨some 36, .bin .add (.tmp 34) (.tmp 35), none, [], []⟩,
 ⟨some 37, .conv .u64 (.tmp 36), none, [], []⟩,
 ⟨some 38, .bin .shr (.tmp 37) (.cst (.int .u64 1)), none, [], []⟩,
 ⟨some 39, .conv .i64 (.tmp 38), none, [], []⟩,
 ⟨some 12, .mv (.tmp 39), none, [], []⟩])
  (.ghost (.kill [33, 34, 35, 36, 37, 38, 39])))
  (.seq (.seq (.region true [
 ⟨some 40, .mv (.tmp 4), none, [], [4]⟩,
 ⟨some 41, .mv (.tmp 0), none, [], [0]⟩,
 ⟨some 42, .mv (.tmp 12), none, [], [12]⟩,
 ⟨some 43, .iaddr 5 (.tmp 41) (.tmp 42), none, [1, 2], [41, 42]⟩,
 ⟨some 44, .load true 5 (.tmp 43), none, [3], [43]⟩,
 ⟨some 45, .mv (.tmp 0), none, [], [0]⟩,
 ⟨some 46, .mv (.tmp 1), none, [], [1]⟩,
 ⟨some 47, .iaddr 5 (.tmp 45) (.tmp 46), none, [5, 6], [45, 46]⟩,
 ⟨some 48, .load true 5 (.tmp 47), none, [7], [47]⟩,
 ⟨some 49, .callv true (.tmp 40) [(.tmp 44), (.tmp 48)], none, [0, 4, 8], [40, 44, 48]⟩,
 ⟨some 50, .bin .lss (.tmp 49) (.cst (.int .i64 0)), none, [9], [49]⟩])
  (.ghost (.kill [40, 41, 42, 43, 44, 45, 46, 47, 48, 49])))
  (.cond (.tmp 50) (.seq (.region false [
      ⟨some 51, .mv (.tmp 12), none, [], []⟩,
      ⟨some 52, .bin .add (.tmp 51) (.cst (.int .i64 1)), none, [], []⟩,
      ⟨some 10, .mv (.tmp 52), none, [], []⟩])
    (.ghost (.kill [12, 50, 51, 52])))
  (.seq (.region false [
      ⟨some 53, .mv (.tmp 12), none, [], []⟩,
      ⟨some 11, .mv (.tmp 53), none, [], []⟩])
    (.ghost (.kill [12, 50, 53]))))))))
def slices_symMergeCmpFunc_Commit.main : ACode := (.seq (.seq (.seq (.region false [
 ⟨some 25, .mv (.tmp 2), none, [], []⟩,
 ⟨some 26, .mv (.tmp 1), none, [], []⟩,
 ⟨some 27, .bin .sub (.tmp 25) (.tmp 26), none, [], []⟩,
 ⟨some 28, .bin .eql (.tmp 27) (.cst (.int .i64 1)), none, [], []⟩])
  (.ghost (.kill [25, 26, 27])))
  (.cond (.tmp 28) (.seq (.seq (.region false [
      ⟨some 29, .mv (.tmp 2), none, [], []⟩,
      ⟨some 10, .mv (.tmp 29), none, [], []⟩])
    (.ghost (.kill [2, 28, 29])))
    (.seq (.seq (.region false [
      ⟨some 30, .mv (.tmp 3), none, [], []⟩,
      ⟨some 11, .mv (.tmp 30), none, [], []⟩])
    (.ghost (.kill [3, 30])))
    (.seq (.seq (.block 0 (.loop slices_symMergeCmpFunc_Commit.b0))
    (.ghost (.kill [4, 11, 33])))
    slices_symMergeCmpFunc_Commit.c11)))
  .skip))
  slices_symMergeCmpFunc_Commit.c9)
def slices_symMergeCmpFunc_Commit.k4 : List Item := [.inBlock 8, .code slices_symMergeCmpFunc_Commit.c4, .code slices_symMergeCmpFunc_Commit.c3]
def slices_symMergeCmpFunc_Commit.k3 : List Item := [.inBlock 6, .code slices_symMergeCmpFunc_Commit.c7, .code .ret, .code slices_symMergeCmpFunc_Commit.c6]
def slices_symMergeCmpFunc_Commit.k2 : List Item := [.inBlock 4, .code (.ghost (.kill [4, 15, 85])), .code slices_symMergeCmpFunc_Commit.c8, .code slices_symMergeCmpFunc_Commit.c6]
def slices_symMergeCmpFunc_Commit.k1 : List Item := [.inBlock 2, .code slices_symMergeCmpFunc_Commit.c10, .code .ret, .code slices_symMergeCmpFunc_Commit.c9]
def slices_symMergeCmpFunc_Commit.k0 : List Item := [.inBlock 0, .code (.ghost (.kill [4, 11, 33])), .code slices_symMergeCmpFunc_Commit.c11, .code slices_symMergeCmpFunc_Commit.c9]
def slices_symMergeCmpFunc_Commit : AFunc := ⟨220, [], slices_symMergeCmpFunc_Commit.main⟩
/-- chapman/chapmanref20.Weight -/
def r20_Weight.c0 : ACode := (.seq (.region false [
 ⟨some 19, .mv (.tmp 3), none, [], []⟩,
 ⟨some 2, .mv (.tmp 19), none, [], []⟩])
  .ret)
def r20_Weight.b0 : ACode := (.seq (.seq (.seq (.region false [
 ⟨some 5, .mv (.tmp 4), none, [], []⟩,
 ⟨some 6, .faddr 2 (.tmp 1), none, [], []⟩,
 ⟨some 7, .load false 1 (.tmp 6), none, [], []⟩,
 ⟨some 8, .len .sl (.tmp 7), none, [], []⟩,
 ⟨some 9, .bin .lss (.tmp 5) (.tmp 8), none, [], []⟩])
  (.ghost (.kill [5, 6, 7, 8])))
  (.cond (.tmp 9) .skip
  (.exit 0)))
  (.seq (.block 1 (.seq (.region false [
 ⟨some 12, .mv (.tmp 3), none, [], []⟩,
 ⟨some 13, .faddr 2 (.tmp 1), none, [], []⟩,
 ⟨some 14, .load false 1 (.tmp 13), none, [], []⟩,
 ⟨some 15, .mv (.tmp 4), none, [], []⟩,
 ⟨some 16, .iaddr 1 (.tmp 14) (.tmp 15), none, [], []⟩,
 ⟨some 17, .load false 1 (.tmp 16), none, [], []⟩,
 ⟨some 18, .bin .add (.tmp 12) (.tmp 17), none, [], []⟩,
 ⟨some 3, .mv (.tmp 18), none, [], []⟩])
  (.ghost (.kill [9, 12, 13, 14, 15, 16, 17, 18]))))
  (.seq (.region false [
 ⟨some 10, .mv (.tmp 4), none, [], []⟩,
 ⟨some 11, .bin .add (.tmp 10) (.cst (.int .i64 1)), none, [], []⟩,
 ⟨some 4, .mv (.tmp 11), none, [], []⟩])
  (.ghost (.kill [10, 11])))))
def r20_Weight.main : ACode := (.seq (.seq (.region false [
 ⟨some 1, .box 5 (.tmp 0), none, [], []⟩,
 ⟨some 2, .mv (.cst (.int .i64 0)), none, [], []⟩])
  (.ghost (.kill [0, 2])))
  (.seq (.region false [
 ⟨some 3, .mv (.cst (.int .i64 0)), none, [], []⟩])
  (.seq (.seq (.region false [
 ⟨some 4, .mv (.cst (.int .i64 0)), none, [], []⟩])
  (.seq (.block 0 (.loop r20_Weight.b0))
  (.ghost (.kill [1, 4, 9]))))
  r20_Weight.c0)))
def r20_Weight.k0 : List Item := [.inBlock 0, .code (.ghost (.kill [1, 4, 9])), .code r20_Weight.c0]
def r20_Weight : AFunc := ⟨20, [.tmp 2], r20_Weight.main⟩
/-- chapman/chapmanref20.Find -/
def r20_Find.c0 : ACode := (.seq (.region false [
 ⟨some 4, .mv (.cst (.int .i64 (-1))), none, [], []⟩])
  .ret)
def r20_Find.b0 : ACode := (.seq (.seq (.seq (.region false [
 ⟨some 6, .mv (.tmp 5), none, [], []⟩,
 ⟨some 7, .mv (.tmp 0), none, [], []⟩,
 ⟨some 8, .len .sl (.tmp 7), none, [], []⟩,
 ⟨some 9, .bin .lss (.tmp 6) (.tmp 8), none, [], []⟩])
  (.ghost (.kill [6, 7, 8])))
  (.cond (.tmp 9) .skip
  (.exit 0)))
  (.seq (.seq (.block 1 (.seq (.seq (.region true [
 ⟨some 12, .mv (.tmp 0), none, [], [0]⟩,
 ⟨some 13, .mv (.tmp 5), none, [], [5]⟩,
 ⟨some 14, .iaddr 5 (.tmp 12) (.tmp 13), none, [0, 1], [12, 13]⟩,
 ⟨some 15, .faddr 0 (.tmp 14), none, [2], [14]⟩,
 ⟨some 16, .load true 2 (.tmp 15), none, [3], [15]⟩,
 ⟨some 17, .load true 2 (.tmp 3), none, [], [3]⟩,
 ⟨some 18, .eqs false (.row [(0, 1, false, (.int .i64)), (1, 1, false, (.int .i64))]) (.tmp 16) (.tmp 17), none, [4, 5], [16, 17]⟩])
  (.ghost (.kill [9, 12, 13, 14, 15, 16, 17])))
  (.cond (.tmp 18) (.seq (.region false [
      ⟨some 19, .mv (.tmp 5), none, [], []⟩,
      ⟨some 4, .mv (.tmp 19), none, [], []⟩])
    .ret)
  .skip)))
  (.ghost (.kill [18])))
  (.seq (.region false [
 ⟨some 10, .mv (.tmp 5), none, [], []⟩,
 ⟨some 11, .bin .add (.tmp 10) (.cst (.int .i64 1)), none, [], []⟩,
 ⟨some 5, .mv (.tmp 11), none, [], []⟩])
  (.ghost (.kill [10, 11])))))
def r20_Find.main : ACode := (.seq (.seq (.region false [
 ⟨some 3, .box 2 (.tmp 1), none, [], []⟩,
 ⟨some 4, .mv (.cst (.int .i64 0)), none, [], []⟩])
  (.ghost (.kill [1, 4])))
  (.seq (.seq (.region false [
 ⟨some 5, .mv (.cst (.int .i64 0)), none, [], []⟩])
  (.seq (.block 0 (.loop r20_Find.b0))
  (.ghost (.kill [0, 3, 5, 9]))))
  r20_Find.c0))
def r20_Find.k0 : List Item := [.inBlock 0, .code (.ghost (.kill [0, 3, 5, 9])), .code r20_Find.c0]
def r20_Find : AFunc := ⟨20, [.tmp 4], r20_Find.main⟩
/-- chapman/chapmanref20.Leq -/
def r20_Leq.c0 : ACode := (.seq (.region false [
 ⟨some 4, .mv (.cst (.bool true)), none, [], []⟩])
  .ret)
def r20_Leq.c1 : ACode := (.ghost (.kill [0, 1, 5, 17]))
def r20_Leq.b0 : ACode := (.seq (.seq (.seq (.region false [
 ⟨some 14, .mv (.tmp 5), none, [], []⟩,
 ⟨some 15, .mv (.tmp 0), none, [], []⟩,
 ⟨some 16, .len .sl (.tmp 15), none, [], []⟩,
 ⟨some 17, .bin .lss (.tmp 14) (.tmp 16), none, [], []⟩])
  (.ghost (.kill [14, 15, 16])))
  (.cond (.tmp 17) .skip
  (.exit 0)))
  (.seq (.seq (.block 1 (.seq (.seq (.region true [
 ⟨some 20, .mv (.tmp 0), none, [], [0]⟩,
 ⟨some 21, .mv (.tmp 5), none, [], [5]⟩,
 ⟨some 22, .iaddr 1 (.tmp 20) (.tmp 21), none, [0, 1], [20, 21]⟩,
 ⟨some 23, .load false 1 (.tmp 22), none, [2], [22]⟩,
 ⟨some 24, .mv (.tmp 1), none, [], [1]⟩,
 ⟨some 25, .mv (.tmp 5), none, [], [5]⟩,
 ⟨some 26, .iaddr 1 (.tmp 24) (.tmp 25), none, [4, 5], [24, 25]⟩,
 ⟨some 27, .load false 1 (.tmp 26), none, [6], [26]⟩,
 ⟨some 28, .bin .gtr (.tmp 23) (.tmp 27), none, [3, 7], [23, 27]⟩])
  (.ghost (.kill [17, 20, 21, 22, 23, 24, 25, 26, 27])))
  (.cond (.tmp 28) (.seq (.region false [
      ⟨some 4, .mv (.cst (.bool false)), none, [], []⟩])
    .ret)
  .skip)))
  (.ghost (.kill [28])))
  (.seq (.region false [
 ⟨some 18, .mv (.tmp 5), none, [], []⟩,
 ⟨some 19, .bin .add (.tmp 18) (.cst (.int .i64 1)), none, [], []⟩,
 ⟨some 5, .mv (.tmp 19), none, [], []⟩])
  (.ghost (.kill [18, 19])))))
def r20_Leq.main : ACode := (.seq (.seq (.region false [
 ⟨some 4, .mv (.cst (.bool false)), none, [], []⟩])
  (.ghost (.kill [4])))
  (.seq (.seq (.seq (.region false [
 ⟨some 6, .mv (.tmp 0), none, [], []⟩,
 ⟨some 7, .call true i_r20_Valid [(.tmp 6)], none, [], []⟩,
 ⟨some 8, .un .not (.tmp 7), none, [], []⟩,
 ⟨some 9, .mv (.tmp 8), none, [], []⟩,
 ⟨some 10, .mv (.tmp 1), (some ((some 9), false)), [], []⟩,
 ⟨some 11, .call true i_r20_Valid [(.tmp 10)], (some ((some 9), false)), [], []⟩,
 ⟨some 12, .un .not (.tmp 11), (some ((some 9), false)), [], []⟩,
 ⟨some 13, .pick (.tmp 9) (.cst (.bool true)) (.tmp 12), none, [], []⟩])
  (.ghost (.kill [6, 7, 8, 9, 10, 11, 12])))
  (.cond (.tmp 13) (.seq (.region false [
      ⟨some 4, .mv (.cst (.bool false)), none, [], []⟩])
    .ret)
  .skip))
  (.seq (.seq (.seq (.region false [
 ⟨some 5, .mv (.cst (.int .i64 0)), none, [], []⟩])
  (.ghost (.kill [13])))
  (.seq (.block 0 (.loop r20_Leq.b0))
  r20_Leq.c1))
  r20_Leq.c0)))
def r20_Leq.k0 : List Item := [.inBlock 0, .code r20_Leq.c1, .code r20_Leq.c0]
def r20_Leq : AFunc := ⟨29, [.tmp 4], r20_Leq.main⟩
/-- chapman/cut.Leq -/
def cut_Leq.c0 : ACode := (.seq (.region false [
 ⟨some 4, .mv (.cst (.bool true)), none, [], []⟩])
  .ret)
def cut_Leq.c1 : ACode := (.ghost (.kill [0, 1, 14, 15]))
def cut_Leq.b0 : ACode := (.seq (.region false [
 ⟨some 15, .bin .lss (.tmp 14) (.cst (.int .i64 6)), none, [], []⟩])
  (.seq (.cond (.tmp 15) .skip
  (.exit 0))
  (.seq (.seq (.block 1 (.seq (.seq (.region false [
 ⟨some 16, .mv (.tmp 14), none, [], []⟩,
 ⟨some 5, .mv (.tmp 16), none, [], []⟩])
  (.ghost (.kill [15, 16])))
  (.seq (.seq (.region true [
 ⟨some 17, .mv (.tmp 0), none, [], [0]⟩,
 ⟨some 18, .mv (.tmp 5), none, [], [5]⟩,
 ⟨some 19, .iaddr 1 (.tmp 17) (.tmp 18), none, [0, 1], [17, 18]⟩,
 ⟨some 20, .load false 1 (.tmp 19), none, [2], [19]⟩,
 ⟨some 21, .mv (.tmp 1), none, [], [1]⟩,
 ⟨some 22, .mv (.tmp 5), none, [], [5]⟩,
 ⟨some 23, .iaddr 1 (.tmp 21) (.tmp 22), none, [4, 5], [21, 22]⟩,
 ⟨some 24, .load false 1 (.tmp 23), none, [6], [23]⟩,
 ⟨some 25, .bin .gtr (.tmp 20) (.tmp 24), none, [3, 7], [20, 24]⟩])
  (.ghost (.kill [5, 17, 18, 19, 20, 21, 22, 23, 24])))
  (.cond (.tmp 25) (.seq (.region false [
      ⟨some 4, .mv (.cst (.bool false)), none, [], []⟩])
    .ret)
  .skip))))
  (.ghost (.kill [25])))
  (.seq (.region false [
 ⟨some 26, .bin .add (.tmp 14) (.cst (.int .i64 1)), none, [], []⟩,
 ⟨some 14, .mv (.tmp 26), none, [], []⟩])
  (.ghost (.kill [26]))))))
def cut_Leq.main : ACode := (.seq (.seq (.region false [
 ⟨some 4, .mv (.cst (.bool false)), none, [], []⟩])
  (.ghost (.kill [4])))
  (.seq (.seq (.seq (.region false [
 ⟨some 6, .mv (.tmp 0), none, [], []⟩,
 ⟨some 7, .call true i_cut_Valid [(.tmp 6)], none, [], []⟩,
 ⟨some 8, .un .not (.tmp 7), none, [], []⟩,
 ⟨some 9, .mv (.tmp 8), none, [], []⟩,
 ⟨some 10, .mv (.tmp 1), (some ((some 9), false)), [], []⟩,
 ⟨some 11, .call true i_cut_Valid [(.tmp 10)], (some ((some 9), false)), [], []⟩,
 ⟨some 12, .un .not (.tmp 11), (some ((some 9), false)), [], []⟩,
 ⟨some 13, .pick (.tmp 9) (.cst (.bool true)) (.tmp 12), none, [], []⟩])
  (.ghost (.kill [6, 7, 8, 9, 10, 11, 12])))
  (.cond (.tmp 13) (.seq (.region false [
      ⟨some 4, .mv (.cst (.bool false)), none, [], []⟩])
    .ret)
  .skip))
  (.seq (.seq (.seq (.region false [
 ⟨some 14, .mv (.cst (.int .i64 0)), none, [], []⟩])
  (.ghost (.kill [13])))
  (.seq (.block 0 (.loop cut_Leq.b0))
  cut_Leq.c1))
  cut_Leq.c0)))
def cut_Leq.k0 : List Item := [.inBlock 0, .code cut_Leq.c1, .code cut_Leq.c0]
def cut_Leq : AFunc := ⟨27, [.tmp 4], cut_Leq.main⟩
/-- slices.insertionSortCmpFunc[int] -/
def slices_insertionSortCmpFunc_int.c0 : ACode := (.ghost (.kill [0, 1, 2, 3, 8, 14]))
def slices_insertionSortCmpFunc_int.c1 : ACode := (.seq (.region false [
 ⟨some 15, .mv (.tmp 8), none, [], []⟩,
 ⟨some 16, .bin .add (.tmp 15) (.cst (.int .i64 1)), none, [], []⟩,
 ⟨some 8, .mv (.tmp 16), none, [], []⟩])
  (.ghost (.kill [15, 16])))
def slices_insertionSortCmpFunc_int.b1 : ACode := (.seq (.seq (.seq (.region true [
 ⟨some 18, .mv (.tmp 9), none, [], [9]⟩,
 ⟨some 19, .mv (.tmp 1), none, [], [1]⟩,
 ⟨some 20, .bin .gtr (.tmp 18) (.tmp 19), none, [0, 1], [18, 19]⟩,
 ⟨some 21, .mv (.tmp 20), none, [2], [20]⟩,
 ⟨some 22, .mv (.tmp 3), (some ((some 21), true)), [3], [3]⟩,
 ⟨some 23, .mv (.tmp 0), (some ((some 21), true)), [3], [0]⟩,
 ⟨some 24, .mv (.tmp 9), (some ((some 21), true)), [3], [9]⟩,
 ⟨some 25, .iaddr 1 (.tmp 23) (.tmp 24), (some ((some 21), true)), [5, 6, 3], [23, 24]⟩,
 ⟨some 26, .load false 1 (.tmp 25), (some ((some 21), true)), [7, 3], [25]⟩,
 ⟨some 27, .mv (.tmp 0), (some ((some 21), true)), [3], [0]⟩,
 ⟨some 28, .mv (.tmp 9), (some ((some 21), true)), [3], [9]⟩,
 ⟨some 29, .bin .sub (.tmp 28) (.cst (.int .i64 1)), (some ((some 21), true)), [10, 3], [28]⟩,
 ⟨some 30, .iaddr 1 (.tmp 27) (.tmp 29), (some ((some 21), true)), [9, 11, 3], [27, 29]⟩,
 ⟨some 31, .load false 1 (.tmp 30), (some ((some 21), true)), [12, 3], [30]⟩,
 ⟨some 32, .callv true (.tmp 22) [(.tmp 26), (.tmp 31)], (some ((some 21), true)), [4, 8, 13, 3, 3], [22, 26, 31]⟩,
 ⟨some 33, .bin .lss (.tmp 32) (.cst (.int .i64 0)), (some ((some 21), true)), [14, 3], [32]⟩,
 ⟨some 34, .pick (.tmp 21) (.tmp 33) (.cst (.bool false)), none, [3, 15], [21, 33]⟩])
  (.ghost (.kill [18, 19, 20, 21, 22, 23, 24, 25, 26, 27, 28, 29, 30, 31, 32, 33])))
  (.cond (.tmp 34) .skip
  (.exit 2)))
  (.seq (.block 3 (.seq (.region true [
 ⟨some 37, .mv (.tmp 0), none, [], [0]⟩,
 ⟨some 38, .mv (.tmp 9), none, [], [9]⟩,
 ⟨some 39, .mv (.tmp 0), none, [], [0]⟩,
 ⟨some 40, .mv (.tmp 9), none, [], [9]⟩,
 ⟨some 41, .bin .sub (.tmp 40) (.cst (.int .i64 1)), none, [3], [40]⟩,
 ⟨some 42, .mv (.tmp 0), none, [], [0]⟩,
 ⟨some 43, .mv (.tmp 9), none, [], [9]⟩,
 ⟨some 44, .bin .sub (.tmp 43) (.cst (.int .i64 1)), none, [6], [43]⟩,
 ⟨some 45, .iaddr 1 (.tmp 42) (.tmp 44), none, [5, 7], [42, 44]⟩,
 ⟨some 46, .load false 1 (.tmp 45), none, [8], [45]⟩,
 ⟨some 47, .mv (.tmp 0), none, [], [0]⟩,
 ⟨some 48, .mv (.tmp 9), none, [], [9]⟩,
 ⟨some 49, .iaddr 1 (.tmp 47) (.tmp 48), none, [10, 11], [47, 48]⟩,
 ⟨some 50, .load false 1 (.tmp 49), none, [12], [49]⟩,
 ⟨some 51, .iaddr 1 (.tmp 37) (.tmp 38), none, [0, 1, 0, 1, 5, 6, 7, 8, 9, 13], [37, 38]⟩,
 ⟨none, .store 1 (.tmp 51) (.tmp 46), none, [14, 9, 0, 1, 5, 6, 7, 8, 9, 13], [51, 46]⟩,
 ⟨some 52, .iaddr 1 (.tmp 39) (.tmp 41), none, [2, 4, 0, 1, 2, 3, 4, 5, 6, 7, 8, 9, 10, 11, 12, 13, 14, 15], [39, 41]⟩,
 ⟨none, .store 1 (.tmp 52) (.tmp 50), none, [16, 13, 15, 0, 1, 2, 3, 4, 5, 6, 7, 8, 9, 10, 11, 12, 13, 14, 15], [52, 50]⟩])
  (.ghost (.kill [34, 37, 38, 39, 40, 41, 42, 43, 44, 45, 46, 47, 48, 49, 50, 51, 52]))))
  (.seq (.region false [
 ⟨some 35, .mv (.tmp 9), none, [], []⟩,
 ⟨some 36, .bin .sub (.tmp 35) (.cst (.int .i64 1)), none, [], []⟩,
 ⟨some 9, .mv (.tmp 36), none, [], []⟩])
  (.ghost (.kill [35, 36])))))
def slices_insertionSortCmpFunc_int.b0 : ACode := (.seq (.seq (.seq (.region false [
 ⟨some 12, .mv (.tmp 8), none, [], []⟩,
 ⟨some 13, .mv (.tmp 2), none, [], []⟩,
 ⟨some 14, .bin .lss (.tmp 12) (.tmp 13), none, [], []⟩])
  (.ghost (.kill [12, 13])))
  (.cond (.tmp 14) .skip
  (.exit 0)))
  (.seq (.block 1 (.seq (.seq (.region false [
 ⟨some 17, .mv (.tmp 8), none, [], []⟩,
 ⟨some 9, .mv (.tmp 17), none, [], []⟩])
  (.ghost (.kill [14, 17])))
  (.seq (.block 2 (.loop slices_insertionSortCmpFunc_int.b1))
  (.ghost (.kill [9, 34])))))
  slices_insertionSortCmpFunc_int.c1))
def slices_insertionSortCmpFunc_int.main : ACode := (.seq (.seq (.region false [
 ⟨some 10, .mv (.tmp 1), none, [], []⟩,
 ⟨some 11, .bin .add (.tmp 10) (.cst (.int .i64 1)), none, [], []⟩,
 ⟨some 8, .mv (.tmp 11), none, [], []⟩])
  (.ghost (.kill [10, 11])))
  (.seq (.block 0 (.loop slices_insertionSortCmpFunc_int.b0))
  slices_insertionSortCmpFunc_int.c0))
def slices_insertionSortCmpFunc_int.k1 : List Item := [.inBlock 2, .code (.ghost (.kill [9, 34])), .inBlock 1, .code slices_insertionSortCmpFunc_int.c1, .inLoop slices_insertionSortCmpFunc_int.b0, .inBlock 0, .code slices_insertionSortCmpFunc_int.c0]
def slices_insertionSortCmpFunc_int.k0 : List Item := [.inBlock 0, .code slices_insertionSortCmpFunc_int.c0]
def slices_insertionSortCmpFunc_int : AFunc := ⟨53, [], slices_insertionSortCmpFunc_int.main⟩
/-- slices.heapSortCmpFunc[int] -/
def slices_heapSortCmpFunc_int.c0 : ACode := (.ghost (.kill [0, 3, 8, 9, 12, 33]))
def slices_heapSortCmpFunc_int.b1 : ACode := (.seq (.seq (.seq (.region false [
 ⟨some 32, .mv (.tmp 12), none, [], []⟩,
 ⟨some 33, .bin .geq (.tmp 32) (.cst (.int .i64 0)), none, [], []⟩])
  (.ghost (.kill [32])))
  (.cond (.tmp 33) .skip
  (.exit 2)))
  (.seq (.trunc (.block 3 (.seq (.seq (.region true [
 ⟨some 36, .mv (.tmp 0), none, [], [0]⟩,
 ⟨some 37, .mv (.tmp 8), none, [], [8]⟩,
 ⟨some 38, .mv (.tmp 0), none, [], [0]⟩,
 ⟨some 39, .mv (.tmp 8), none, [], [8]⟩,
 ⟨some 40, .mv (.tmp 12), none, [], [12]⟩,
 ⟨some 41, .bin .add (.tmp 39) (.tmp 40), none, [3, 4], [39, 40]⟩,
 ⟨some 42, .mv (.tmp 0), none, [], [0]⟩,
 ⟨some 43, .mv (.tmp 8), none, [], [8]⟩,
 ⟨some 44, .mv (.tmp 12), none, [], [12]⟩,
 ⟨some 45, .bin .add (.tmp 43) (.tmp 44), none, [7, 8], [43, 44]⟩,
 ⟨some 46, .iaddr 1 (.tmp 42) (.tmp 45), none, [6, 9], [42, 45]⟩,
 ⟨some 47, .load false 1 (.tmp 46), none, [10], [46]⟩,
 ⟨some 48, .mv (.tmp 0), none, [], [0]⟩,
 ⟨some 49, .mv (.tmp 8), none, [], [8]⟩,
 ⟨some 50, .iaddr 1 (.tmp 48) (.tmp 49), none, [12, 13], [48, 49]⟩,
 ⟨some 51, .load false 1 (.tmp 50), none, [14], [50]⟩,
 ⟨some 52, .iaddr 1 (.tmp 36) (.tmp 37), none, [0, 1, 0, 1, 6, 7, 8, 9, 10, 11, 15], [36, 37]⟩,
 ⟨none, .store 1 (.tmp 52) (.tmp 47), none, [16, 11, 0, 1, 6, 7, 8, 9, 10, 11, 15], [52, 47]⟩,
 ⟨some 53, .iaddr 1 (.tmp 38) (.tmp 41), none, [2, 5, 0, 1, 2, 3, 4, 5, 6, 7, 8, 9, 10, 11, 12, 13, 14, 15, 16, 17], [38, 41]⟩,
 ⟨none, .store 1 (.tmp 53) (.tmp 51), none, [18, 15, 17, 0, 1, 2, 3, 4, 5, 6, 7, 8, 9, 10, 11, 12, 13, 14, 15, 16, 17], [53, 51]⟩])
  (.ghost (.kill [33, 36, 37, 38, 39, 40, 41, 42, 43, 44, 45, 46, 47, 48, 49, 50, 51, 52, 53])))
  (.seq (.region false [
 ⟨some 54, .mv (.tmp 0), none, [], []⟩,
 ⟨some 55, .mv (.tmp 9), none, [], []⟩,
 ⟨some 56, .mv (.tmp 12), none, [], []⟩,
 ⟨some 57, .mv (.tmp 8), none, [], []⟩,
 ⟨some 58, .mv (.tmp 3), none, [], []⟩,
 ⟨some 59, .call false i_slices_siftDownCmpFunc_int [(.tmp 54), (.tmp 55), (.tmp 56), (.tmp 57), (.tmp 58)], none, [], []⟩])
  (.ghost (.kill [54, 55, 56, 57, 58, 59]))))))
  (.seq (.region false [
 ⟨some 34, .mv (.tmp 12), none, [], []⟩,
 ⟨some 35, .bin .sub (.tmp 34) (.cst (.int .i64 1)), none, [], []⟩,
 ⟨some 12, .mv (.tmp 35), none, [], []⟩])
  (.ghost (.kill [34, 35])))))
def slices_heapSortCmpFunc_int.c1 : ACode := (.seq (.seq (.region false [
 ⟨some 30, .mv (.tmp 10), none, [], []⟩,
 ⟨some 31, .bin .sub (.tmp 30) (.cst (.int .i64 1)), none, [], []⟩,
 ⟨some 12, .mv (.tmp 31), none, [], []⟩])
  (.ghost (.kill [10, 30, 31])))
  (.seq (.block 2 (.loop slices_heapSortCmpFunc_int.b1))
  slices_heapSortCmpFunc_int.c0))
def slices_heapSortCmpFunc_int.b0 : ACode := (.seq (.seq (.seq (.region false [
 ⟨some 20, .mv (.tmp 11), none, [], []⟩,
 ⟨some 21, .bin .geq (.tmp 20) (.cst (.int .i64 0)), none, [], []⟩])
  (.ghost (.kill [20])))
  (.cond (.tmp 21) .skip
  (.exit 0)))
  (.seq (.trunc (.block 1 (.seq (.region false [
 ⟨some 24, .mv (.tmp 0), none, [], []⟩,
 ⟨some 25, .mv (.tmp 11), none, [], []⟩,
 ⟨some 26, .mv (.tmp 10), none, [], []⟩,
 ⟨some 27, .mv (.tmp 8), none, [], []⟩,
 ⟨some 28, .mv (.tmp 3), none, [], []⟩,
 ⟨some 29, .call false i_slices_siftDownCmpFunc_int [(.tmp 24), (.tmp 25), (.tmp 26), (.tmp 27), (.tmp 28)], none, [], []⟩])
  (.ghost (.kill [21, 24, 25, 26, 27, 28, 29])))))
  (.seq (.region false [
 ⟨some 22, .mv (.tmp 11), none, [], []⟩,
 ⟨some 23, .bin .sub (.tmp 22) (.cst (.int .i64 1)), none, [], []⟩,
 ⟨some 11, .mv (.tmp 23), none, [], []⟩])
  (.ghost (.kill [22, 23])))))
def slices_heapSortCmpFunc_int.main : ACode := (.seq (.seq (.region false [
 ⟨some 13, .mv (.tmp 1), none, [], []⟩,
 ⟨some 8, .mv (.tmp 13), none, [], []⟩])
  (.ghost (.kill [13])))
  (.seq (.region false [
 ⟨some 9, .mv (.cst (.int .i64 0)), none, [], []⟩])
  (.seq (.seq (.region false [
 ⟨some 14, .mv (.tmp 2), none, [], []⟩,
 ⟨some 15, .mv (.tmp 1), none, [], []⟩,
 ⟨some 16, .bin .sub (.tmp 14) (.tmp 15), none, [], []⟩,
 ⟨some 10, .mv (.tmp 16), none, [], []⟩])
  (.ghost (.kill [1, 2, 14, 15, 16])))
  (.seq (.seq (.seq (.region false [
 ⟨some 17, .mv (.tmp 10), none, [], []⟩,
 ⟨some 18, .bin .sub (.tmp 17) (.cst (.int .i64 1)), none, [], []⟩,
 ⟨some 19, .bin .quo (.tmp 18) (.cst (.int .i64 2)), none, [], []⟩,
 ⟨some 11, .mv (.tmp 19), none, [], []⟩])
  (.ghost (.kill [17, 18, 19])))
  (.seq (.block 0 (.loop slices_heapSortCmpFunc_int.b0))
  (.ghost (.kill [11, 21]))))
  slices_heapSortCmpFunc_int.c1))))
def slices_heapSortCmpFunc_int.k1 : List Item := [.inBlock 2, .code slices_heapSortCmpFunc_int.c0]
def slices_heapSortCmpFunc_int.k0 : List Item := [.inBlock 0, .code (.ghost (.kill [11, 21])), .code slices_heapSortCmpFunc_int.c1]
def slices_heapSortCmpFunc_int : AFunc := ⟨60, [], slices_heapSortCmpFunc_int.main⟩
/-- slices.breakPatternsCmpFunc[int] -/
def slices_breakPatternsCmpFunc_int.c0 : ACode := (.ghost (.kill [0, 1, 8, 17]))
def slices_breakPatternsCmpFunc_int.c1 : ACode := (.ghost (.kill [0, 1, 8, 9, 10, 11, 35]))
def slices_breakPatternsCmpFunc_int.c2 : ACode := (.seq (.region false [
 ⟨some 36, .mv (.tmp 11), none, [], []⟩,
 ⟨some 37, .bin .add (.tmp 36) (.cst (.int .i64 1)), none, [], []⟩,
 ⟨some 11, .mv (.tmp 37), none, [], []⟩])
  (.ghost (.kill [36, 37])))
def slices_breakPatternsCmpFunc_int.c3 : ACode := (.seq (.region true [
 ⟨some 49, .mv (.tmp 0), none, [], [0]⟩,
 ⟨some 50, .mv (.tmp 11), none, [], [11]⟩,
 ⟨some 51, .mv (.tmp 0), none, [], [0]⟩,
 ⟨some 52, .mv (.tmp 1), none, [], [1]⟩,
 ⟨some 53, .mv (.tmp 12), none, [], [12]⟩,
 ⟨some 54, .bin .add (.tmp 52) (.tmp 53), none, [3, 4], [52, 53]⟩,
 ⟨some 55, .mv (.tmp 0), none, [], [0]⟩,
 ⟨some 56, .mv (.tmp 1), none, [], [1]⟩,
 ⟨some 57, .mv (.tmp 12), none, [], [12]⟩,
 ⟨some 58, .bin .add (.tmp 56) (.tmp 57), none, [7, 8], [56, 57]⟩,
 ⟨some 59, .iaddr 1 (.tmp 55) (.tmp 58), none, [6, 9], [55, 58]⟩,
 ⟨some 60, .load false 1 (.tmp 59), none, [10], [59]⟩,
 ⟨some 61, .mv (.tmp 0), none, [], [0]⟩,
 ⟨some 62, .mv (.tmp 11), none, [], [11]⟩,
 ⟨some 63, .iaddr 1 (.tmp 61) (.tmp 62), none, [12, 13], [61, 62]⟩,
 ⟨some 64, .load false 1 (.tmp 63), none, [14], [63]⟩,
 ⟨some 65, .iaddr 1 (.tmp 49) (.tmp 50), none, [0, 1, 0, 1, 6, 7, 8, 9, 10, 11, 15], [49, 50]⟩,
 ⟨none, .store 1 (.tmp 65) (.tmp 60), none, [16, 11, 0, 1, 6, 7, 8, 9, 10, 11, 15], [65, 60]⟩,
 ⟨some 66, .iaddr 1 (.tmp 51) (.tmp 54), none, [2, 5, 0, 1, 2, 3, 4, 5, 6, 7, 8, 9, 10, 11, 12, 13, 14, 15, 16, 17], [51, 54]⟩,
 ⟨none, .store 1 (.tmp 66) (.tmp 64), none, [18, 15, 17, 0, 1, 2, 3, 4, 5, 6, 7, 8, 9, 10, 11, 12, 13, 14, 15, 16, 17], [66, 64]⟩])
  (.ghost (.kill [12, 49, 50, 51, 52, 53, 54, 55, 56, 57, 58, 59, 60, 61, 62, 63, 64, 65, 66])))
def slices_breakPatternsCmpFunc_int.b0 : ACode := (.seq (.seq (.seq (.region false [
 ⟨some 28, .mv (.tmp 11), none, [], []⟩,
 ⟨some 29, .mv (.tmp 1), none, [], []⟩,
 ⟨some 30, .mv (.tmp 8), none, [], []⟩,
 ⟨some 31, .bin .quo (.tmp 30) (.cst (.int .i64 4)), none, [], []⟩,
 ⟨some 32, .bin .mul (.tmp 31) (.cst (.int .i64 2)), none, [], []⟩,
 ⟨some 33, .bin .add (.tmp 29) (.tmp 32), none, [], []⟩,
 ⟨some 34, .bin .add (.tmp 33) (.cst (.int .i64 1)), none, [], []⟩,
 ⟨some 35, .bin .leq (.tmp 28) (.tmp 34), none, [], []⟩])
  (.ghost (.kill [28, 29, 30, 31, 32, 33, 34])))
  (.cond (.tmp 35) .skip
  (.exit 0)))
  (.seq (.trunc (.block 1 (.seq (.seq (.region false [
 ⟨some 38, .call false i_slices_xorshift_Next [(.tmp 9)], none, [], []⟩,
 ⟨some 39, .mv (.tmp 10), none, [], []⟩,
 ⟨some 40, .bin .sub (.tmp 39) (.cst (.int .u64 1)), none, [], []⟩,
 ⟨some 41, .bin .and (.tmp 38) (.tmp 40), none, [], []⟩,
 ⟨some 42, .conv .i64 (.tmp 41), none, [], []⟩,
 ⟨some 12, .mv (.tmp 42), none, [], []⟩])
  (.ghost (.kill [35, 38, 39, 40, 41, 42])))
  (.seq (.seq (.seq (.region false [
 ⟨some 43, .mv (.tmp 12), none, [], []⟩,
 ⟨some 44, .mv (.tmp 8), none, [], []⟩,
 ⟨some 45, .bin .geq (.tmp 43) (.tmp 44), none, [], []⟩])
  (.ghost (.kill [43, 44])))
  (.seq (.cond (.tmp 45) (.seq (.region false [
      ⟨some 46, .mv (.tmp 12), none, [], []⟩,
      ⟨some 47, .mv (.tmp 8), none, [], []⟩,
      ⟨some 48, .bin .sub (.tmp 46) (.tmp 47), none, [], []⟩,
      ⟨some 12, .mv (.tmp 48), none, [], []⟩])
    (.ghost (.kill [45, 46, 47, 48])))
  .skip)
  (.ghost (.kill [45]))))
  slices_breakPatternsCmpFunc_int.c3))))
  slices_breakPatternsCmpFunc_int.c2))
def slices_breakPatternsCmpFunc_int.main : ACode := (.seq (.seq (.region false [
 ⟨some 13, .mv (.tmp 2), none, [], []⟩,
 ⟨some 14, .mv (.tmp 1), none, [], []⟩,
 ⟨some 15, .bin .sub (.tmp 13) (.tmp 14), none, [], []⟩,
 ⟨some 8, .mv (.tmp 15), none, [], []⟩])
  (.ghost (.kill [2, 3, 13, 14, 15])))
  (.seq (.seq (.region false [
 ⟨some 16, .mv (.tmp 8), none, [], []⟩,
 ⟨some 17, .bin .geq (.tmp 16) (.cst (.int .i64 8)), none, [], []⟩])
  (.ghost (.kill [16])))
  (.seq (.cond (.tmp 17) (.seq (.seq (.region false [
      ⟨some 18, .mv (.tmp 8), none, [], []⟩,
      ⟨some 19, .conv .u64 (.tmp 18), none, [], []⟩,
      ⟨some 9, .alloc [(.int .u64 0)], none, [], []⟩,
      ⟨none, .store 1 (.tmp 9) (.tmp 19), none, [], []⟩])
    (.ghost (.kill [17, 18, 19])))
    (.seq (.seq (.region false [
      ⟨some 20, .mv (.tmp 8), none, [], []⟩,
      ⟨some 21, .call true i_slices_nextPowerOfTwo [(.tmp 20)], none, [], []⟩,
      ⟨some 10, .mv (.tmp 21), none, [], []⟩])
    (.ghost (.kill [20, 21])))
    (.seq (.seq (.region false [
      ⟨some 22, .mv (.tmp 1), none, [], []⟩,
      ⟨some 23, .mv (.tmp 8), none, [], []⟩,
      ⟨some 24, .bin .quo (.tmp 23) (.cst (.int .i64 4)), none, [], []⟩,
      ⟨some 25, .bin .mul (.tmp 24) (.cst (.int .i64 2)), none, [], []⟩,
      ⟨some 26, .bin .add (.tmp 22) (.tmp 25), none, [], []⟩,
      ⟨some 27, .bin .sub (.tmp 26) (.cst (.int .i64 1)), none, [], []⟩,
      ⟨some 11, .mv (.tmp 27), none, [], []⟩])
    (.ghost (.kill [22, 23, 24, 25, 26, 27])))
    (.seq (.block 0 (.loop slices_breakPatternsCmpFunc_int.b0))
    slices_breakPatternsCmpFunc_int.c1))))
  .skip)
  slices_breakPatternsCmpFunc_int.c0)))
def slices_breakPatternsCmpFunc_int.k0 : List Item := [.inBlock 0, .code slices_breakPatternsCmpFunc_int.c1, .code slices_breakPatternsCmpFunc_int.c0]
def slices_breakPatternsCmpFunc_int : AFunc := ⟨67, [], slices_breakPatternsCmpFunc_int.main⟩
/-- slices.choosePivotCmpFunc[int] -/
def slices_choosePivotCmpFunc_int.c0 : ACode := (.seq (.seq (.region false [
 ⟨some 55, .load false 1 (.tmp 11), none, [], []⟩])
  (.ghost (.kill [11])))
  (.block 0 (.seq (.seq (.region false [
 ⟨some 58, .bin .eql (.tmp 55) (.cst (.int .i64 0)), none, [], []⟩,
 ⟨some 57, .mv (.tmp 58), none, [], []⟩])
  (.ghost (.kill [58])))
  (.cond (.tmp 57) (.seq (.region false [
      ⟨some 59, .mv (.tmp 13), none, [], []⟩,
      ⟨some 8, .mv (.tmp 59), none, [], []⟩,
      ⟨some 9, .mv (.cst (.int .i64 1)), none, [], []⟩])
    .ret)
  (.seq (.seq (.region false [
      ⟨some 61, .bin .eql (.tmp 55) (.cst (.int .i64 12)), none, [], []⟩,
      ⟨some 60, .mv (.tmp 61), none, [], []⟩])
    (.ghost (.kill [55, 57, 61])))
    (.cond (.tmp 60) (.seq (.region false [
        ⟨some 62, .mv (.tmp 13), none, [], []⟩,
        ⟨some 8, .mv (.tmp 62), none, [], []⟩,
        ⟨some 9, .mv (.cst (.int .i64 2)), none, [], []⟩])
      .ret)
    (.seq (.region false [
        ⟨some 56, .mv (.tmp 13), none, [], []⟩,
        ⟨some 8, .mv (.tmp 56), none, [], []⟩,
        ⟨some 9, .mv (.cst (.int .i64 0)), none, [], []⟩])
      .ret)))))))
def slices_choosePivotCmpFunc_int.c1 : ACode := (.ghost (.kill [0, 3, 10, 12, 14, 34]))
def slices_choosePivotCmpFunc_int.c2 : ACode := (.seq (.region false [
 ⟨some 49, .mv (.tmp 0), none, [], []⟩,
 ⟨some 50, .mv (.tmp 12), none, [], []⟩,
 ⟨some 51, .mv (.tmp 13), none, [], []⟩,
 ⟨some 52, .mv (.tmp 14), none, [], []⟩,
 ⟨some 53, .mv (.tmp 3), none, [], []⟩,
 ⟨some 54, .call false i_slices_medianCmpFunc_int [(.tmp 49), (.tmp 50), (.tmp 51), (.tmp 52), (.tmp 11), (.tmp 53)], none, [], []⟩,
 ⟨some 13, .mv (.tmp 54), none, [], []⟩])
  (.ghost (.kill [0, 3, 12, 14, 49, 50, 51, 52, 53, 54])))
def slices_choosePivotCmpFunc_int.main : ACode := (.seq (.seq (.region false [
 ⟨some 8, .mv (.cst (.int .i64 0)), none, [], []⟩,
 ⟨some 9, .mv (.cst (.int .i64 0)), none, [], []⟩])
  (.ghost (.kill [8, 9])))
  (.seq (.seq (.region false [
 ⟨some 15, .mv (.tmp 2), none, [], []⟩,
 ⟨some 16, .mv (.tmp 1), none, [], []⟩,
 ⟨some 17, .bin .sub (.tmp 15) (.tmp 16), none, [], []⟩,
 ⟨some 10, .mv (.tmp 17), none, [], []⟩])
  (.ghost (.kill [2, 15, 16, 17])))
  (.seq (.region false [
 ⟨some 11, .alloc [(.int .i64 0)], none, [], []⟩])
  (.seq (.seq (.region false [
 ⟨some 18, .mv (.tmp 1), none, [], []⟩,
 ⟨some 19, .mv (.tmp 10), none, [], []⟩,
 ⟨some 20, .bin .quo (.tmp 19) (.cst (.int .i64 4)), none, [], []⟩,
 ⟨some 21, .bin .mul (.tmp 20) (.cst (.int .i64 1)), none, [], []⟩,
 ⟨some 22, .bin .add (.tmp 18) (.tmp 21), none, [], []⟩,
 ⟨some 12, .mv (.tmp 22), none, [], []⟩])
  (.ghost (.kill [18, 19, 20, 21, 22])))
  (.seq (.seq (.region false [
 ⟨some 23, .mv (.tmp 1), none, [], []⟩,
 ⟨some 24, .mv (.tmp 10), none, [], []⟩,
 ⟨some 25, .bin .quo (.tmp 24) (.cst (.int .i64 4)), none, [], []⟩,
 ⟨some 26, .bin .mul (.tmp 25) (.cst (.int .i64 2)), none, [], []⟩,
 ⟨some 27, .bin .add (.tmp 23) (.tmp 26), none, [], []⟩,
 ⟨some 13, .mv (.tmp 27), none, [], []⟩])
  (.ghost (.kill [23, 24, 25, 26, 27])))
  (.seq (.seq (.region false [
 ⟨some 28, .mv (.tmp 1), none, [], []⟩,
 ⟨some 29, .mv (.tmp 10), none, [], []⟩,
 ⟨some 30, .bin .quo (.tmp 29) (.cst (.int .i64 4)), none, [], []⟩,
 ⟨some 31, .bin .mul (.tmp 30) (.cst (.int .i64 3)), none, [], []⟩,
 ⟨some 32, .bin .add (.tmp 28) (.tmp 31), none, [], []⟩,
 ⟨some 14, .mv (.tmp 32), none, [], []⟩])
  (.ghost (.kill [1, 28, 29, 30, 31, 32])))
  (.seq (.seq (.seq (.region false [
 ⟨some 33, .mv (.tmp 10), none, [], []⟩,
 ⟨some 34, .bin .geq (.tmp 33) (.cst (.int .i64 8)), none, [], []⟩])
  (.ghost (.kill [33])))
  (.seq (.cond (.tmp 34) (.seq (.seq (.seq (.region false [
      ⟨some 35, .mv (.tmp 10), none, [], []⟩,
      ⟨some 36, .bin .geq (.tmp 35) (.cst (.int .i64 50)), none, [], []⟩])
    (.ghost (.kill [10, 34, 35])))
    (.seq (.cond (.tmp 36) (.seq (.seq (.region false [
        ⟨some 37, .mv (.tmp 0), none, [], []⟩,
        ⟨some 38, .mv (.tmp 12), none, [], []⟩,
        ⟨some 39, .mv (.tmp 3), none, [], []⟩,
        ⟨some 40, .call false i_slices_medianAdjacentCmpFunc_int [(.tmp 37), (.tmp 38), (.tmp 11), (.tmp 39)], none, [], []⟩,
        ⟨some 12, .mv (.tmp 40), none, [], []⟩])
      (.ghost (.kill [36, 37, 38, 39, 40])))
      (.seq (.seq (.region false [
        ⟨some 41, .mv (.tmp 0), none, [], []⟩,
        ⟨some 42, .mv (.tmp 13), none, [], []⟩,
        ⟨some 43, .mv (.tmp 3), none, [], []⟩,
        ⟨some 44, .call false i_slices_medianAdjacentCmpFunc_int [(.tmp 41), (.tmp 42), (.tmp 11), (.tmp 43)], none, [], []⟩,
        ⟨some 13, .mv (.tmp 44), none, [], []⟩])
      (.ghost (.kill [41, 42, 43, 44])))
      (.seq (.region false [
        ⟨some 45, .mv (.tmp 0), none, [], []⟩,
        ⟨some 46, .mv (.tmp 14), none, [], []⟩,
        ⟨some 47, .mv (.tmp 3), none, [], []⟩,
        ⟨some 48, .call false i_slices_medianAdjacentCmpFunc_int [(.tmp 45), (.tmp 46), (.tmp 11), (.tmp 47)], none, [], []⟩,
        ⟨some 14, .mv (.tmp 48), none, [], []⟩])
      (.ghost (.kill [45, 46, 47, 48])))))
    .skip)
    (.ghost (.kill [36]))))
    slices_choosePivotCmpFunc_int.c2)
  .skip)
  slices_choosePivotCmpFunc_int.c1))
  slices_choosePivotCmpFunc_int.c0)))))))
def slices_choosePivotCmpFunc_int : AFunc := ⟨63, [.tmp 8, .tmp 9], slices_choosePivotCmpFunc_int.main⟩
/-- slices.reverseRangeCmpFunc[int] -/
def slices_reverseRangeCmpFunc_int.c0 : ACode := (.ghost (.kill [0, 8, 9, 15]))
def slices_reverseRangeCmpFunc_int.b0 : ACode := (.seq (.seq (.seq (.region false [
 ⟨some 13, .mv (.tmp 8), none, [], []⟩,
 ⟨some 14, .mv (.tmp 9), none, [], []⟩,
 ⟨some 15, .bin .lss (.tmp 13) (.tmp 14), none, [], []⟩])
  (.ghost (.kill [13, 14])))
  (.cond (.tmp 15) .skip
  (.exit 0)))
  (.block 1 (.seq (.seq (.region true [
 ⟨some 16, .mv (.tmp 0), none, [], [0]⟩,
 ⟨some 17, .mv (.tmp 8), none, [], [8]⟩,
 ⟨some 18, .mv (.tmp 0), none, [], [0]⟩,
 ⟨some 19, .mv (.tmp 9), none, [], [9]⟩,
 ⟨some 20, .mv (.tmp 0), none, [], [0]⟩,
 ⟨some 21, .mv (.tmp 9), none, [], [9]⟩,
 ⟨some 22, .iaddr 1 (.tmp 20) (.tmp 21), none, [4, 5], [20, 21]⟩,
 ⟨some 23, .load false 1 (.tmp 22), none, [6], [22]⟩,
 ⟨some 24, .mv (.tmp 0), none, [], [0]⟩,
 ⟨some 25, .mv (.tmp 8), none, [], [8]⟩,
 ⟨some 26, .iaddr 1 (.tmp 24) (.tmp 25), none, [8, 9], [24, 25]⟩,
 ⟨some 27, .load false 1 (.tmp 26), none, [10], [26]⟩,
 ⟨some 28, .iaddr 1 (.tmp 16) (.tmp 17), none, [0, 1, 0, 1, 4, 5, 6, 7, 11], [16, 17]⟩,
 ⟨none, .store 1 (.tmp 28) (.tmp 23), none, [12, 7, 0, 1, 4, 5, 6, 7, 11], [28, 23]⟩,
 ⟨some 29, .iaddr 1 (.tmp 18) (.tmp 19), none, [2, 3, 0, 1, 2, 3, 4, 5, 6, 7, 8, 9, 10, 11, 12, 13], [18, 19]⟩,
 ⟨none, .store 1 (.tmp 29) (.tmp 27), none, [14, 11, 13, 0, 1, 2, 3, 4, 5, 6, 7, 8, 9, 10, 11, 12, 13], [29, 27]⟩])
  (.ghost (.kill [15, 16, 17, 18, 19, 20, 21, 22, 23, 24, 25, 26, 27, 28, 29])))
  (.seq (.seq (.region false [
 ⟨some 30, .mv (.tmp 8), none, [], []⟩,
 ⟨some 31, .bin .add (.tmp 30) (.cst (.int .i64 1)), none, [], []⟩,
 ⟨some 8, .mv (.tmp 31), none, [], []⟩])
  (.ghost (.kill [30, 31])))
  (.seq (.region false [
 ⟨some 32, .mv (.tmp 9), none, [], []⟩,
 ⟨some 33, .bin .sub (.tmp 32) (.cst (.int .i64 1)), none, [], []⟩,
 ⟨some 9, .mv (.tmp 33), none, [], []⟩])
  (.ghost (.kill [32, 33])))))))
def slices_reverseRangeCmpFunc_int.main : ACode := (.seq (.seq (.region false [
 ⟨some 10, .mv (.tmp 1), none, [], []⟩,
 ⟨some 8, .mv (.tmp 10), none, [], []⟩])
  (.ghost (.kill [1, 3, 10])))
  (.seq (.seq (.region false [
 ⟨some 11, .mv (.tmp 2), none, [], []⟩,
 ⟨some 12, .bin .sub (.tmp 11) (.cst (.int .i64 1)), none, [], []⟩,
 ⟨some 9, .mv (.tmp 12), none, [], []⟩])
  (.ghost (.kill [2, 11, 12])))
  (.seq (.block 0 (.loop slices_reverseRangeCmpFunc_int.b0))
  slices_reverseRangeCmpFunc_int.c0)))
def slices_reverseRangeCmpFunc_int.k0 : List Item := [.inBlock 0, .code slices_reverseRangeCmpFunc_int.c0]
def slices_reverseRangeCmpFunc_int : AFunc := ⟨34, [], slices_reverseRangeCmpFunc_int.main⟩
/-- slices.partialInsertionSortCmpFunc[int] -/
def slices_partialInsertionSortCmpFunc_int.c0 : ACode := (.seq (.region false [
 ⟨some 8, .mv (.cst (.bool false)), none, [], []⟩])
  .ret)
def slices_partialInsertionSortCmpFunc_int.c1 : ACode := (.ghost (.kill [0, 1, 2, 3, 9, 10, 16]))
def slices_partialInsertionSortCmpFunc_int.c2 : ACode := (.seq (.region false [
 ⟨some 17, .mv (.tmp 10), none, [], []⟩,
 ⟨some 18, .bin .add (.tmp 17) (.cst (.int .i64 1)), none, [], []⟩,
 ⟨some 10, .mv (.tmp 18), none, [], []⟩])
  (.ghost (.kill [17, 18])))
def slices_partialInsertionSortCmpFunc_int.c3 : ACode := (.ghost (.kill [12, 109, 124]))
def slices_partialInsertionSortCmpFunc_int.b3 : ACode := (.seq (.seq (.seq (.region false [
 ⟨some 107, .mv (.tmp 12), none, [], []⟩,
 ⟨some 108, .mv (.tmp 2), none, [], []⟩,
 ⟨some 109, .bin .lss (.tmp 107) (.tmp 108), none, [], []⟩])
  (.ghost (.kill [107, 108])))
  (.cond (.tmp 109) .skip
  (.exit 6)))
  (.seq (.block 7 (.seq (.seq (.seq (.region true [
 ⟨some 112, .mv (.tmp 3), none, [], [3]⟩,
 ⟨some 113, .mv (.tmp 0), none, [], [0]⟩,
 ⟨some 114, .mv (.tmp 12), none, [], [12]⟩,
 ⟨some 115, .iaddr 1 (.tmp 113) (.tmp 114), none, [1, 2], [113, 114]⟩,
 ⟨some 116, .load false 1 (.tmp 115), none, [3], [115]⟩,
 ⟨some 117, .mv (.tmp 0), none, [], [0]⟩,
 ⟨some 118, .mv (.tmp 12), none, [], [12]⟩,
 ⟨some 119, .bin .sub (.tmp 118) (.cst (.int .i64 1)), none, [6], [118]⟩,
 ⟨some 120, .iaddr 1 (.tmp 117) (.tmp 119), none, [5, 7], [117, 119]⟩,
 ⟨some 121, .load false 1 (.tmp 120), none, [8], [120]⟩,
 ⟨some 122, .callv true (.tmp 112) [(.tmp 116), (.tmp 121)], none, [0, 4, 9], [112, 116, 121]⟩,
 ⟨some 123, .bin .lss (.tmp 122) (.cst (.int .i64 0)), none, [10], [122]⟩,
 ⟨some 124, .un .not (.tmp 123), none, [11], [123]⟩])
  (.ghost (.kill [109, 112, 113, 114, 115, 116, 117, 118, 119, 120, 121, 122, 123])))
  (.cond (.tmp 124) (.exit 6)
  .skip))
  (.seq (.region true [
 ⟨some 125, .mv (.tmp 0), none, [], [0]⟩,
 ⟨some 126, .mv (.tmp 12), none, [], [12]⟩,
 ⟨some 127, .mv (.tmp 0), none, [], [0]⟩,
 ⟨some 128, .mv (.tmp 12), none, [], [12]⟩,
 ⟨some 129, .bin .sub (.tmp 128) (.cst (.int .i64 1)), none, [3], [128]⟩,
 ⟨some 130, .mv (.tmp 0), none, [], [0]⟩,
 ⟨some 131, .mv (.tmp 12), none, [], [12]⟩,
 ⟨some 132, .bin .sub (.tmp 131) (.cst (.int .i64 1)), none, [6], [131]⟩,
 ⟨some 133, .iaddr 1 (.tmp 130) (.tmp 132), none, [5, 7], [130, 132]⟩,
 ⟨some 134, .load false 1 (.tmp 133), none, [8], [133]⟩,
 ⟨some 135, .mv (.tmp 0), none, [], [0]⟩,
 ⟨some 136, .mv (.tmp 12), none, [], [12]⟩,
 ⟨some 137, .iaddr 1 (.tmp 135) (.tmp 136), none, [10, 11], [135, 136]⟩,
 ⟨some 138, .load false 1 (.tmp 137), none, [12], [137]⟩,
 ⟨some 139, .iaddr 1 (.tmp 125) (.tmp 126), none, [0, 1, 0, 1, 5, 6, 7, 8, 9, 13], [125, 126]⟩,
 ⟨none, .store 1 (.tmp 139) (.tmp 134), none, [14, 9, 0, 1, 5, 6, 7, 8, 9, 13], [139, 134]⟩,
 ⟨some 140, .iaddr 1 (.tmp 127) (.tmp 129), none, [2, 4, 0, 1, 2, 3, 4, 5, 6, 7, 8, 9, 10, 11, 12, 13, 14, 15], [127, 129]⟩,
 ⟨none, .store 1 (.tmp 140) (.tmp 138), none, [16, 13, 15, 0, 1, 2, 3, 4, 5, 6, 7, 8, 9, 10, 11, 12, 13, 14, 15], [140, 138]⟩])
  (.ghost (.kill [124, 125, 126, 127, 128, 129, 130, 131, 132, 133, 134, 135, 136, 137, 138, 139, 140])))))
  (.seq (.region false [
 ⟨some 110, .mv (.tmp 12), none, [], []⟩,
 ⟨some 111, .bin .add (.tmp 110) (.cst (.int .i64 1)), none, [], []⟩,
 ⟨some 12, .mv (.tmp 111), none, [], []⟩])
  (.ghost (.kill [110, 111])))))
def slices_partialInsertionSortCmpFunc_int.c4 : ACode := (.seq (.seq (.region false [
 ⟨some 101, .mv (.tmp 2), none, [], []⟩,
 ⟨some 102, .mv (.tmp 9), none, [], []⟩,
 ⟨some 103, .bin .sub (.tmp 101) (.tmp 102), none, [], []⟩,
 ⟨some 104, .bin .geq (.tmp 103) (.cst (.int .i64 2)), none, [], []⟩])
  (.ghost (.kill [101, 102, 103])))
  (.seq (.cond (.tmp 104) (.seq (.seq (.region false [
      ⟨some 105, .mv (.tmp 9), none, [], []⟩,
      ⟨some 106, .bin .add (.tmp 105) (.cst (.int .i64 1)), none, [], []⟩,
      ⟨some 12, .mv (.tmp 106), none, [], []⟩])
    (.ghost (.kill [104, 105, 106])))
    (.seq (.block 6 (.loop slices_partialInsertionSortCmpFunc_int.b3))
    slices_partialInsertionSortCmpFunc_int.c3))
  .skip)
  (.ghost (.kill [104]))))
def slices_partialInsertionSortCmpFunc_int.b2 : ACode := (.seq (.seq (.seq (.region false [
 ⟨some 68, .mv (.tmp 11), none, [], []⟩,
 ⟨some 69, .bin .geq (.tmp 68) (.cst (.int .i64 1)), none, [], []⟩])
  (.ghost (.kill [68])))
  (.cond (.tmp 69) .skip
  (.exit 4)))
  (.seq (.block 5 (.seq (.seq (.seq (.region true [
 ⟨some 72, .mv (.tmp 3), none, [], [3]⟩,
 ⟨some 73, .mv (.tmp 0), none, [], [0]⟩,
 ⟨some 74, .mv (.tmp 11), none, [], [11]⟩,
 ⟨some 75, .iaddr 1 (.tmp 73) (.tmp 74), none, [1, 2], [73, 74]⟩,
 ⟨some 76, .load false 1 (.tmp 75), none, [3], [75]⟩,
 ⟨some 77, .mv (.tmp 0), none, [], [0]⟩,
 ⟨some 78, .mv (.tmp 11), none, [], [11]⟩,
 ⟨some 79, .bin .sub (.tmp 78) (.cst (.int .i64 1)), none, [6], [78]⟩,
 ⟨some 80, .iaddr 1 (.tmp 77) (.tmp 79), none, [5, 7], [77, 79]⟩,
 ⟨some 81, .load false 1 (.tmp 80), none, [8], [80]⟩,
 ⟨some 82, .callv true (.tmp 72) [(.tmp 76), (.tmp 81)], none, [0, 4, 9], [72, 76, 81]⟩,
 ⟨some 83, .bin .lss (.tmp 82) (.cst (.int .i64 0)), none, [10], [82]⟩,
 ⟨some 84, .un .not (.tmp 83), none, [11], [83]⟩])
  (.ghost (.kill [69, 72, 73, 74, 75, 76, 77, 78, 79, 80, 81, 82, 83])))
  (.cond (.tmp 84) (.exit 4)
  .skip))
  (.seq (.region true [
 ⟨some 85, .mv (.tmp 0), none, [], [0]⟩,
 ⟨some 86, .mv (.tmp 11), none, [], [11]⟩,
 ⟨some 87, .mv (.tmp 0), none, [], [0]⟩,
 ⟨some 88, .mv (.tmp 11), none, [], [11]⟩,
 ⟨some 89, .bin .sub (.tmp 88) (.cst (.int .i64 1)), none, [3], [88]⟩,
 ⟨some 90, .mv (.tmp 0), none, [], [0]⟩,
 ⟨some 91, .mv (.tmp 11), none, [], [11]⟩,
 ⟨some 92, .bin .sub (.tmp 91) (.cst (.int .i64 1)), none, [6], [91]⟩,
 ⟨some 93, .iaddr 1 (.tmp 90) (.tmp 92), none, [5, 7], [90, 92]⟩,
 ⟨some 94, .load false 1 (.tmp 93), none, [8], [93]⟩,
 ⟨some 95, .mv (.tmp 0), none, [], [0]⟩,
 ⟨some 96, .mv (.tmp 11), none, [], [11]⟩,
 ⟨some 97, .iaddr 1 (.tmp 95) (.tmp 96), none, [10, 11], [95, 96]⟩,
 ⟨some 98, .load false 1 (.tmp 97), none, [12], [97]⟩,
 ⟨some 99, .iaddr 1 (.tmp 85) (.tmp 86), none, [0, 1, 0, 1, 5, 6, 7, 8, 9, 13], [85, 86]⟩,
 ⟨none, .store 1 (.tmp 99) (.tmp 94), none, [14, 9, 0, 1, 5, 6, 7, 8, 9, 13], [99, 94]⟩,
 ⟨some 100, .iaddr 1 (.tmp 87) (.tmp 89), none, [2, 4, 0, 1, 2, 3, 4, 5, 6, 7, 8, 9, 10, 11, 12, 13, 14, 15], [87, 89]⟩,
 ⟨none, .store 1 (.tmp 100) (.tmp 98), none, [16, 13, 15, 0, 1, 2, 3, 4, 5, 6, 7, 8, 9, 10, 11, 12, 13, 14, 15], [100, 98]⟩])
  (.ghost (.kill [84, 85, 86, 87, 88, 89, 90, 91, 92, 93, 94, 95, 96, 97, 98, 99, 100])))))
  (.seq (.region false [
 ⟨some 70, .mv (.tmp 11), none, [], []⟩,
 ⟨some 71, .bin .sub (.tmp 70) (.cst (.int .i64 1)), none, [], []⟩,
 ⟨some 11, .mv (.tmp 71), none, [], []⟩])
  (.ghost (.kill [70, 71])))))
def slices_partialInsertionSortCmpFunc_int.c5 : ACode := (.seq (.seq (.seq (.region false [
 ⟨some 39, .mv (.tmp 9), none, [], []⟩,
 ⟨some 40, .mv (.tmp 2), none, [], []⟩,
 ⟨some 41, .bin .eql (.tmp 39) (.tmp 40), none, [], []⟩])
  (.ghost (.kill [39, 40])))
  (.cond (.tmp 41) (.seq (.region false [
      ⟨some 8, .mv (.cst (.bool true)), none, [], []⟩])
    .ret)
  .skip))
  (.seq (.seq (.seq (.region false [
 ⟨some 42, .mv (.tmp 2), none, [], []⟩,
 ⟨some 43, .mv (.tmp 1), none, [], []⟩,
 ⟨some 44, .bin .sub (.tmp 42) (.tmp 43), none, [], []⟩,
 ⟨some 45, .bin .lss (.tmp 44) (.cst (.int .i64 50)), none, [], []⟩])
  (.ghost (.kill [41, 42, 43, 44])))
  (.cond (.tmp 45) (.seq (.region false [
      ⟨some 8, .mv (.cst (.bool false)), none, [], []⟩])
    .ret)
  .skip))
  (.seq (.seq (.region true [
 ⟨some 46, .mv (.tmp 0), none, [], [0]⟩,
 ⟨some 47, .mv (.tmp 9), none, [], [9]⟩,
 ⟨some 48, .mv (.tmp 0), none, [], [0]⟩,
 ⟨some 49, .mv (.tmp 9), none, [], [9]⟩,
 ⟨some 50, .bin .sub (.tmp 49) (.cst (.int .i64 1)), none, [3], [49]⟩,
 ⟨some 51, .mv (.tmp 0), none, [], [0]⟩,
 ⟨some 52, .mv (.tmp 9), none, [], [9]⟩,
 ⟨some 53, .bin .sub (.tmp 52) (.cst (.int .i64 1)), none, [6], [52]⟩,
 ⟨some 54, .iaddr 1 (.tmp 51) (.tmp 53), none, [5, 7], [51, 53]⟩,
 ⟨some 55, .load false 1 (.tmp 54), none, [8], [54]⟩,
 ⟨some 56, .mv (.tmp 0), none, [], [0]⟩,
 ⟨some 57, .mv (.tmp 9), none, [], [9]⟩,
 ⟨some 58, .iaddr 1 (.tmp 56) (.tmp 57), none, [10, 11], [56, 57]⟩,
 ⟨some 59, .load false 1 (.tmp 58), none, [12], [58]⟩,
 ⟨some 60, .iaddr 1 (.tmp 46) (.tmp 47), none, [0, 1, 0, 1, 5, 6, 7, 8, 9, 13], [46, 47]⟩,
 ⟨none, .store 1 (.tmp 60) (.tmp 55), none, [14, 9, 0, 1, 5, 6, 7, 8, 9, 13], [60, 55]⟩,
 ⟨some 61, .iaddr 1 (.tmp 48) (.tmp 50), none, [2, 4, 0, 1, 2, 3, 4, 5, 6, 7, 8, 9, 10, 11, 12, 13, 14, 15], [48, 50]⟩,
 ⟨none, .store 1 (.tmp 61) (.tmp 59), none, [16, 13, 15, 0, 1, 2, 3, 4, 5, 6, 7, 8, 9, 10, 11, 12, 13, 14, 15], [61, 59]⟩])
  (.ghost (.kill [45, 46, 47, 48, 49, 50, 51, 52, 53, 54, 55, 56, 57, 58, 59, 60, 61])))
  (.seq (.seq (.seq (.region false [
 ⟨some 62, .mv (.tmp 9), none, [], []⟩,
 ⟨some 63, .mv (.tmp 1), none, [], []⟩,
 ⟨some 64, .bin .sub (.tmp 62) (.tmp 63), none, [], []⟩,
 ⟨some 65, .bin .geq (.tmp 64) (.cst (.int .i64 2)), none, [], []⟩])
  (.ghost (.kill [62, 63, 64])))
  (.seq (.cond (.tmp 65) (.seq (.seq (.region false [
      ⟨some 66, .mv (.tmp 9), none, [], []⟩,
      ⟨some 67, .bin .sub (.tmp 66) (.cst (.int .i64 1)), none, [], []⟩,
      ⟨some 11, .mv (.tmp 67), none, [], []⟩])
    (.ghost (.kill [65, 66, 67])))
    (.seq (.block 4 (.loop slices_partialInsertionSortCmpFunc_int.b2))
    (.ghost (.kill [11, 69, 84]))))
  .skip)
  (.ghost (.kill [65]))))
  slices_partialInsertionSortCmpFunc_int.c4))))
def slices_partialInsertionSortCmpFunc_int.b1 : ACode := (.seq (.seq (.seq (.region true [
 ⟨some 19, .mv (.tmp 9), none, [], [9]⟩,
 ⟨some 20, .mv (.tmp 2), none, [], [2]⟩,
 ⟨some 21, .bin .lss (.tmp 19) (.tmp 20), none, [0, 1], [19, 20]⟩,
 ⟨some 22, .mv (.tmp 21), none, [2], [21]⟩,
 ⟨some 23, .mv (.tmp 3), (some ((some 22), true)), [3], [3]⟩,
 ⟨some 24, .mv (.tmp 0), (some ((some 22), true)), [3], [0]⟩,
 ⟨some 25, .mv (.tmp 9), (some ((some 22), true)), [3], [9]⟩,
 ⟨some 26, .iaddr 1 (.tmp 24) (.tmp 25), (some ((some 22), true)), [5, 6, 3], [24, 25]⟩,
 ⟨some 27, .load false 1 (.tmp 26), (some ((some 22), true)), [7, 3], [26]⟩,
 ⟨some 28, .mv (.tmp 0), (some ((some 22), true)), [3], [0]⟩,
 ⟨some 29, .mv (.tmp 9), (some ((some 22), true)), [3], [9]⟩,
 ⟨some 30, .bin .sub (.tmp 29) (.cst (.int .i64 1)), (some ((some 22), true)), [10, 3], [29]⟩,
 ⟨some 31, .iaddr 1 (.tmp 28) (.tmp 30), (some ((some 22), true)), [9, 11, 3], [28, 30]⟩,
 ⟨some 32, .load false 1 (.tmp 31), (some ((some 22), true)), [12, 3], [31]⟩,
 ⟨some 33, .callv true (.tmp 23) [(.tmp 27), (.tmp 32)], (some ((some 22), true)), [4, 8, 13, 3, 3], [23, 27, 32]⟩,
 ⟨some 34, .bin .lss (.tmp 33) (.cst (.int .i64 0)), (some ((some 22), true)), [14, 3], [33]⟩,
 ⟨some 35, .un .not (.tmp 34), (some ((some 22), true)), [15, 3], [34]⟩,
 ⟨some 36, .pick (.tmp 22) (.tmp 35) (.cst (.bool false)), none, [3, 16], [22, 35]⟩])
  (.ghost (.kill [19, 20, 21, 22, 23, 24, 25, 26, 27, 28, 29, 30, 31, 32, 33, 34, 35])))
  (.cond (.tmp 36) .skip
  (.exit 2)))
  (.block 3 (.seq (.region false [
 ⟨some 37, .mv (.tmp 9), none, [], []⟩,
 ⟨some 38, .bin .add (.tmp 37) (.cst (.int .i64 1)), none, [], []⟩,
 ⟨some 9, .mv (.tmp 38), none, [], []⟩])
  (.ghost (.kill [36, 37, 38])))))
def slices_partialInsertionSortCmpFunc_int.b0 : ACode := (.seq (.seq (.seq (.region false [
 ⟨some 15, .mv (.tmp 10), none, [], []⟩,
 ⟨some 16, .bin .lss (.tmp 15) (.cst (.int .i64 5)), none, [], []⟩])
  (.ghost (.kill [15])))
  (.cond (.tmp 16) .skip
  (.exit 0)))
  (.seq (.block 1 (.seq (.seq (.block 2 (.seq (.ghost (.kill [16]))
  (.loop slices_partialInsertionSortCmpFunc_int.b1)))
  (.ghost (.kill [36])))
  slices_partialInsertionSortCmpFunc_int.c5))
  slices_partialInsertionSortCmpFunc_int.c2))
def slices_partialInsertionSortCmpFunc_int.main : ACode := (.seq (.seq (.region false [
 ⟨some 8, .mv (.cst (.bool false)), none, [], []⟩])
  (.ghost (.kill [8])))
  (.seq (.seq (.region false [
 ⟨some 13, .mv (.tmp 1), none, [], []⟩,
 ⟨some 14, .bin .add (.tmp 13) (.cst (.int .i64 1)), none, [], []⟩,
 ⟨some 9, .mv (.tmp 14), none, [], []⟩])
  (.ghost (.kill [13, 14])))
  (.seq (.seq (.region false [
 ⟨some 10, .mv (.cst (.int .i64 0)), none, [], []⟩])
  (.seq (.block 0 (.loop slices_partialInsertionSortCmpFunc_int.b0))
  slices_partialInsertionSortCmpFunc_int.c1))
  slices_partialInsertionSortCmpFunc_int.c0)))
def slices_partialInsertionSortCmpFunc_int.k3 : List Item := [.inBlock 6, .code slices_partialInsertionSortCmpFunc_int.c3, .code (.ghost (.kill [104])), .inBlock 1, .code slices_partialInsertionSortCmpFunc_int.c2, .inLoop slices_partialInsertionSortCmpFunc_int.b0, .inBlock 0, .code slices_partialInsertionSortCmpFunc_int.c1, .code slices_partialInsertionSortCmpFunc_int.c0]
def slices_partialInsertionSortCmpFunc_int.k2 : List Item := [.inBlock 4, .code (.ghost (.kill [11, 69, 84])), .code (.ghost (.kill [65])), .code slices_partialInsertionSortCmpFunc_int.c4, .inBlock 1, .code slices_partialInsertionSortCmpFunc_int.c2, .inLoop slices_partialInsertionSortCmpFunc_int.b0, .inBlock 0, .code slices_partialInsertionSortCmpFunc_int.c1, .code slices_partialInsertionSortCmpFunc_int.c0]
def slices_partialInsertionSortCmpFunc_int.k1 : List Item := [.inBlock 2, .code (.ghost (.kill [36])), .code slices_partialInsertionSortCmpFunc_int.c5, .inBlock 1, .code slices_partialInsertionSortCmpFunc_int.c2, .inLoop slices_partialInsertionSortCmpFunc_int.b0, .inBlock 0, .code slices_partialInsertionSortCmpFunc_int.c1, .code slices_partialInsertionSortCmpFunc_int.c0]
def slices_partialInsertionSortCmpFunc_int.k0 : List Item := [.inBlock 0, .code slices_partialInsertionSortCmpFunc_int.c1, .code slices_partialInsertionSortCmpFunc_int.c0]
def slices_partialInsertionSortCmpFunc_int : AFunc := ⟨141, [.tmp 8], slices_partialInsertionSortCmpFunc_int.main⟩
/-- slices.partitionEqualCmpFunc[int] -/
def slices_partitionEqualCmpFunc_int.c0 : ACode := (.seq (.region false [
 ⟨some 89, .mv (.tmp 11), none, [], []⟩,
 ⟨some 10, .mv (.tmp 89), none, [], []⟩])
  .ret)
def slices_partitionEqualCmpFunc_int.c1 : ACode := (.ghost (.kill [0, 1, 4, 12, 70]))
def slices_partitionEqualCmpFunc_int.c2 : ACode := (.seq (.seq (.seq (.region false [
 ⟨some 68, .mv (.tmp 11), none, [], []⟩,
 ⟨some 69, .mv (.tmp 12), none, [], []⟩,
 ⟨some 70, .bin .gtr (.tmp 68) (.tmp 69), none, [], []⟩])
  (.ghost (.kill [68, 69])))
  (.cond (.tmp 70) (.exit 0)
  .skip))
  (.seq (.seq (.region true [
 ⟨some 71, .mv (.tmp 0), none, [], [0]⟩,
 ⟨some 72, .mv (.tmp 11), none, [], [11]⟩,
 ⟨some 73, .mv (.tmp 0), none, [], [0]⟩,
 ⟨some 74, .mv (.tmp 12), none, [], [12]⟩,
 ⟨some 75, .mv (.tmp 0), none, [], [0]⟩,
 ⟨some 76, .mv (.tmp 12), none, [], [12]⟩,
 ⟨some 77, .iaddr 1 (.tmp 75) (.tmp 76), none, [4, 5], [75, 76]⟩,
 ⟨some 78, .load false 1 (.tmp 77), none, [6], [77]⟩,
 ⟨some 79, .mv (.tmp 0), none, [], [0]⟩,
 ⟨some 80, .mv (.tmp 11), none, [], [11]⟩,
 ⟨some 81, .iaddr 1 (.tmp 79) (.tmp 80), none, [8, 9], [79, 80]⟩,
 ⟨some 82, .load false 1 (.tmp 81), none, [10], [81]⟩,
 ⟨some 83, .iaddr 1 (.tmp 71) (.tmp 72), none, [0, 1, 0, 1, 4, 5, 6, 7, 11], [71, 72]⟩,
 ⟨none, .store 1 (.tmp 83) (.tmp 78), none, [12, 7, 0, 1, 4, 5, 6, 7, 11], [83, 78]⟩,
 ⟨some 84, .iaddr 1 (.tmp 73) (.tmp 74), none, [2, 3, 0, 1, 2, 3, 4, 5, 6, 7, 8, 9, 10, 11, 12, 13], [73, 74]⟩,
 ⟨none, .store 1 (.tmp 84) (.tmp 82), none, [14, 11, 13, 0, 1, 2, 3, 4, 5, 6, 7, 8, 9, 10, 11, 12, 13], [84, 82]⟩])
  (.ghost (.kill [70, 71, 72, 73, 74, 75, 76, 77, 78, 79, 80, 81, 82, 83, 84])))
  (.seq (.seq (.region false [
 ⟨some 85, .mv (.tmp 11), none, [], []⟩,
 ⟨some 86, .bin .add (.tmp 85) (.cst (.int .i64 1)), none, [], []⟩,
 ⟨some 11, .mv (.tmp 86), none, [], []⟩])
  (.ghost (.kill [85, 86])))
  (.seq (.region false [
 ⟨some 87, .mv (.tmp 12), none, [], []⟩,
 ⟨some 88, .bin .sub (.tmp 87) (.cst (.int .i64 1)), none, [], []⟩,
 ⟨some 12, .mv (.tmp 88), none, [], []⟩])
  (.ghost (.kill [87, 88]))))))
def slices_partitionEqualCmpFunc_int.b2 : ACode := (.seq (.seq (.seq (.region true [
 ⟨some 50, .mv (.tmp 11), none, [], [11]⟩,
 ⟨some 51, .mv (.tmp 12), none, [], [12]⟩,
 ⟨some 52, .bin .leq (.tmp 50) (.tmp 51), none, [0, 1], [50, 51]⟩,
 ⟨some 53, .mv (.tmp 52), none, [2], [52]⟩,
 ⟨some 54, .mv (.tmp 4), (some ((some 53), true)), [3], [4]⟩,
 ⟨some 55, .mv (.tmp 0), (some ((some 53), true)), [3], [0]⟩,
 ⟨some 56, .mv (.tmp 1), (some ((some 53), true)), [3], [1]⟩,
 ⟨some 57, .iaddr 1 (.tmp 55) (.tmp 56), (some ((some 53), true)), [5, 6, 3], [55, 56]⟩,
 ⟨some 58, .load false 1 (.tmp 57), (some ((some 53), true)), [7, 3], [57]⟩,
 ⟨some 59, .mv (.tmp 0), (some ((some 53), true)), [3], [0]⟩,
 ⟨some 60, .mv (.tmp 12), (some ((some 53), true)), [3], [12]⟩,
 ⟨some 61, .iaddr 1 (.tmp 59) (.tmp 60), (some ((some 53), true)), [9, 10, 3], [59, 60]⟩,
 ⟨some 62, .load false 1 (.tmp 61), (some ((some 53), true)), [11, 3], [61]⟩,
 ⟨some 63, .callv true (.tmp 54) [(.tmp 58), (.tmp 62)], (some ((some 53), true)), [4, 8, 12, 3, 3], [54, 58, 62]⟩,
 ⟨some 64, .bin .lss (.tmp 63) (.cst (.int .i64 0)), (some ((some 53), true)), [13, 3], [63]⟩,
 ⟨some 65, .pick (.tmp 53) (.tmp 64) (.cst (.bool false)), none, [3, 14], [53, 64]⟩])
  (.ghost (.kill [50, 51, 52, 53, 54, 55, 56, 57, 58, 59, 60, 61, 62, 63, 64])))
  (.cond (.tmp 65) .skip
  (.exit 4)))
  (.block 5 (.seq (.region false [
 ⟨some 66, .mv (.tmp 12), none, [], []⟩,
 ⟨some 67, .bin .sub (.tmp 66) (.cst (.int .i64 1)), none, [], []⟩,
 ⟨some 12, .mv (.tmp 67), none, [], []⟩])
  (.ghost (.kill [65, 66, 67])))))
def slices_partitionEqualCmpFunc_int.c3 : ACode := (.seq (.seq (.block 4 (.loop slices_partitionEqualCmpFunc_int.b2))
  (.ghost (.kill [65])))
  slices_partitionEqualCmpFunc_int.c2)
def slices_partitionEqualCmpFunc_int.b1 : ACode := (.seq (.seq (.seq (.region true [
 ⟨some 31, .mv (.tmp 11), none, [], [11]⟩,
 ⟨some 32, .mv (.tmp 12), none, [], [12]⟩,
 ⟨some 33, .bin .leq (.tmp 31) (.tmp 32), none, [0, 1], [31, 32]⟩,
 ⟨some 34, .mv (.tmp 33), none, [2], [33]⟩,
 ⟨some 35, .mv (.tmp 4), (some ((some 34), true)), [3], [4]⟩,
 ⟨some 36, .mv (.tmp 0), (some ((some 34), true)), [3], [0]⟩,
 ⟨some 37, .mv (.tmp 1), (some ((some 34), true)), [3], [1]⟩,
 ⟨some 38, .iaddr 1 (.tmp 36) (.tmp 37), (some ((some 34), true)), [5, 6, 3], [36, 37]⟩,
 ⟨some 39, .load false 1 (.tmp 38), (some ((some 34), true)), [7, 3], [38]⟩,
 ⟨some 40, .mv (.tmp 0), (some ((some 34), true)), [3], [0]⟩,
 ⟨some 41, .mv (.tmp 11), (some ((some 34), true)), [3], [11]⟩,
 ⟨some 42, .iaddr 1 (.tmp 40) (.tmp 41), (some ((some 34), true)), [9, 10, 3], [40, 41]⟩,
 ⟨some 43, .load false 1 (.tmp 42), (some ((some 34), true)), [11, 3], [42]⟩,
 ⟨some 44, .callv true (.tmp 35) [(.tmp 39), (.tmp 43)], (some ((some 34), true)), [4, 8, 12, 3, 3], [35, 39, 43]⟩,
 ⟨some 45, .bin .lss (.tmp 44) (.cst (.int .i64 0)), (some ((some 34), true)), [13, 3], [44]⟩,
 ⟨some 46, .un .not (.tmp 45), (some ((some 34), true)), [14, 3], [45]⟩,
 ⟨some 47, .pick (.tmp 34) (.tmp 46) (.cst (.bool false)), none, [3, 15], [34, 46]⟩])
  (.ghost (.kill [31, 32, 33, 34, 35, 36, 37, 38, 39, 40, 41, 42, 43, 44, 45, 46])))
  (.cond (.tmp 47) .skip
  (.exit 2)))
  (.block 3 (.seq (.region false [
 ⟨some 48, .mv (.tmp 11), none, [], []⟩,
 ⟨some 49, .bin .add (.tmp 48) (.cst (.int .i64 1)), none, [], []⟩,
 ⟨some 11, .mv (.tmp 49), none, [], []⟩])
  (.ghost (.kill [47, 48, 49])))))
def slices_partitionEqualCmpFunc_int.b0 : ACode := (.block 1 (.seq (.seq (.block 2 (.loop slices_partitionEqualCmpFunc_int.b1))
  (.ghost (.kill [47])))
  slices_partitionEqualCmpFunc_int.c3))
def slices_partitionEqualCmpFunc_int.main : ACode := (.seq (.seq (.region false [
 ⟨some 10, .mv (.cst (.int .i64 0)), none, [], []⟩])
  (.ghost (.kill [10])))
  (.seq (.seq (.region true [
 ⟨some 13, .mv (.tmp 0), none, [], [0]⟩,
 ⟨some 14, .mv (.tmp 1), none, [], [1]⟩,
 ⟨some 15, .mv (.tmp 0), none, [], [0]⟩,
 ⟨some 16, .mv (.tmp 3), none, [], [3]⟩,
 ⟨some 17, .mv (.tmp 0), none, [], [0]⟩,
 ⟨some 18, .mv (.tmp 3), none, [], [3]⟩,
 ⟨some 19, .iaddr 1 (.tmp 17) (.tmp 18), none, [4, 5], [17, 18]⟩,
 ⟨some 20, .load false 1 (.tmp 19), none, [6], [19]⟩,
 ⟨some 21, .mv (.tmp 0), none, [], [0]⟩,
 ⟨some 22, .mv (.tmp 1), none, [], [1]⟩,
 ⟨some 23, .iaddr 1 (.tmp 21) (.tmp 22), none, [8, 9], [21, 22]⟩,
 ⟨some 24, .load false 1 (.tmp 23), none, [10], [23]⟩,
 ⟨some 25, .iaddr 1 (.tmp 13) (.tmp 14), none, [0, 1, 0, 1, 4, 5, 6, 7, 11], [13, 14]⟩,
 ⟨none, .store 1 (.tmp 25) (.tmp 20), none, [12, 7, 0, 1, 4, 5, 6, 7, 11], [25, 20]⟩,
 ⟨some 26, .iaddr 1 (.tmp 15) (.tmp 16), none, [2, 3, 0, 1, 2, 3, 4, 5, 6, 7, 8, 9, 10, 11, 12, 13], [15, 16]⟩,
 ⟨none, .store 1 (.tmp 26) (.tmp 24), none, [14, 11, 13, 0, 1, 2, 3, 4, 5, 6, 7, 8, 9, 10, 11, 12, 13], [26, 24]⟩])
  (.ghost (.kill [3, 13, 14, 15, 16, 17, 18, 19, 20, 21, 22, 23, 24, 25, 26])))
  (.seq (.seq (.region false [
 ⟨some 27, .mv (.tmp 1), none, [], []⟩,
 ⟨some 28, .bin .add (.tmp 27) (.cst (.int .i64 1)), none, [], []⟩,
 ⟨some 29, .mv (.tmp 2), none, [], []⟩,
 ⟨some 30, .bin .sub (.tmp 29) (.cst (.int .i64 1)), none, [], []⟩,
 ⟨some 11, .mv (.tmp 28), none, [], []⟩,
 ⟨some 12, .mv (.tmp 30), none, [], []⟩])
  (.ghost (.kill [2, 27, 28, 29, 30])))
  (.seq (.seq (.block 0 (.loop slices_partitionEqualCmpFunc_int.b0))
  slices_partitionEqualCmpFunc_int.c1)
  slices_partitionEqualCmpFunc_int.c0))))
def slices_partitionEqualCmpFunc_int.k2 : List Item := [.inBlock 4, .code (.ghost (.kill [65])), .code slices_partitionEqualCmpFunc_int.c2, .inBlock 1, .inLoop slices_partitionEqualCmpFunc_int.b0, .inBlock 0, .code slices_partitionEqualCmpFunc_int.c1, .code slices_partitionEqualCmpFunc_int.c0]
def slices_partitionEqualCmpFunc_int.k1 : List Item := [.inBlock 2, .code (.ghost (.kill [47])), .code slices_partitionEqualCmpFunc_int.c3, .inBlock 1, .inLoop slices_partitionEqualCmpFunc_int.b0, .inBlock 0, .code slices_partitionEqualCmpFunc_int.c1, .code slices_partitionEqualCmpFunc_int.c0]
def slices_partitionEqualCmpFunc_int.k0 : List Item := [.inBlock 0, .code slices_partitionEqualCmpFunc_int.c1, .code slices_partitionEqualCmpFunc_int.c0]
def slices_partitionEqualCmpFunc_int : AFunc := ⟨90, [.tmp 10], slices_partitionEqualCmpFunc_int.main⟩
/-- slices.partitionCmpFunc[int] -/
def slices_partitionCmpFunc_int.c0 : ACode := (.seq (.seq (.region true [
 ⟨some 163, .mv (.tmp 0), none, [], [0]⟩,
 ⟨some 164, .mv (.tmp 13), none, [], [13]⟩,
 ⟨some 165, .mv (.tmp 0), none, [], [0]⟩,
 ⟨some 166, .mv (.tmp 1), none, [], [1]⟩,
 ⟨some 167, .mv (.tmp 0), none, [], [0]⟩,
 ⟨some 168, .mv (.tmp 1), none, [], [1]⟩,
 ⟨some 169, .iaddr 1 (.tmp 167) (.tmp 168), none, [4, 5], [167, 168]⟩,
 ⟨some 170, .load false 1 (.tmp 169), none, [6], [169]⟩,
 ⟨some 171, .mv (.tmp 0), none, [], [0]⟩,
 ⟨some 172, .mv (.tmp 13), none, [], [13]⟩,
 ⟨some 173, .iaddr 1 (.tmp 171) (.tmp 172), none, [8, 9], [171, 172]⟩,
 ⟨some 174, .load false 1 (.tmp 173), none, [10], [173]⟩,
 ⟨some 175, .iaddr 1 (.tmp 163) (.tmp 164), none, [0, 1, 0, 1, 4, 5, 6, 7, 11], [163, 164]⟩,
 ⟨none, .store 1 (.tmp 175) (.tmp 170), none, [12, 7, 0, 1, 4, 5, 6, 7, 11], [175, 170]⟩,
 ⟨some 176, .iaddr 1 (.tmp 165) (.tmp 166), none, [2, 3, 0, 1, 2, 3, 4, 5, 6, 7, 8, 9, 10, 11, 12, 13], [165, 166]⟩,
 ⟨none, .store 1 (.tmp 176) (.tmp 174), none, [14, 11, 13, 0, 1, 2, 3, 4, 5, 6, 7, 8, 9, 10, 11, 12, 13], [176, 174]⟩])
  (.ghost (.kill [0, 1, 163, 164, 165, 166, 167, 168, 169, 170, 171, 172, 173, 174, 175, 176])))
  (.seq (.region false [
 ⟨some 177, .mv (.tmp 13), none, [], []⟩,
 ⟨some 10, .mv (.tmp 177), none, [], []⟩,
 ⟨some 11, .mv (.cst (.bool false)), none, [], []⟩])
  .ret))
def slices_partitionCmpFunc_int.c1 : ACode := (.seq (.seq (.seq (.region false [
 ⟨some 142, .mv (.tmp 12), none, [], []⟩,
 ⟨some 143, .mv (.tmp 13), none, [], []⟩,
 ⟨some 144, .bin .gtr (.tmp 142) (.tmp 143), none, [], []⟩])
  (.ghost (.kill [142, 143])))
  (.cond (.tmp 144) (.exit 4)
  .skip))
  (.seq (.seq (.region true [
 ⟨some 145, .mv (.tmp 0), none, [], [0]⟩,
 ⟨some 146, .mv (.tmp 12), none, [], [12]⟩,
 ⟨some 147, .mv (.tmp 0), none, [], [0]⟩,
 ⟨some 148, .mv (.tmp 13), none, [], [13]⟩,
 ⟨some 149, .mv (.tmp 0), none, [], [0]⟩,
 ⟨some 150, .mv (.tmp 13), none, [], [13]⟩,
 ⟨some 151, .iaddr 1 (.tmp 149) (.tmp 150), none, [4, 5], [149, 150]⟩,
 ⟨some 152, .load false 1 (.tmp 151), none, [6], [151]⟩,
 ⟨some 153, .mv (.tmp 0), none, [], [0]⟩,
 ⟨some 154, .mv (.tmp 12), none, [], [12]⟩,
 ⟨some 155, .iaddr 1 (.tmp 153) (.tmp 154), none, [8, 9], [153, 154]⟩,
 ⟨some 156, .load false 1 (.tmp 155), none, [10], [155]⟩,
 ⟨some 157, .iaddr 1 (.tmp 145) (.tmp 146), none, [0, 1, 0, 1, 4, 5, 6, 7, 11], [145, 146]⟩,
 ⟨none, .store 1 (.tmp 157) (.tmp 152), none, [12, 7, 0, 1, 4, 5, 6, 7, 11], [157, 152]⟩,
 ⟨some 158, .iaddr 1 (.tmp 147) (.tmp 148), none, [2, 3, 0, 1, 2, 3, 4, 5, 6, 7, 8, 9, 10, 11, 12, 13], [147, 148]⟩,
 ⟨none, .store 1 (.tmp 158) (.tmp 156), none, [14, 11, 13, 0, 1, 2, 3, 4, 5, 6, 7, 8, 9, 10, 11, 12, 13], [158, 156]⟩])
  (.ghost (.kill [144, 145, 146, 147, 148, 149, 150, 151, 152, 153, 154, 155, 156, 157, 158])))
  (.seq (.seq (.region false [
 ⟨some 159, .mv (.tmp 12), none, [], []⟩,
 ⟨some 160, .bin .add (.tmp 159) (.cst (.int .i64 1)), none, [], []⟩,
 ⟨some 12, .mv (.tmp 160), none, [], []⟩])
  (.ghost (.kill [159, 160])))
  (.seq (.region false [
 ⟨some 161, .mv (.tmp 13), none, [], []⟩,
 ⟨some 162, .bin .sub (.tmp 161) (.cst (.int .i64 1)), none, [], []⟩,
 ⟨some 13, .mv (.tmp 162), none, [], []⟩])
  (.ghost (.kill [161, 162]))))))
def slices_partitionCmpFunc_int.b4 : ACode := (.seq (.seq (.seq (.region true [
 ⟨some 123, .mv (.tmp 12), none, [], [12]⟩,
 ⟨some 124, .mv (.tmp 13), none, [], [13]⟩,
 ⟨some 125, .bin .leq (.tmp 123) (.tmp 124), none, [0, 1], [123, 124]⟩,
 ⟨some 126, .mv (.tmp 125), none, [2], [125]⟩,
 ⟨some 127, .mv (.tmp 4), (some ((some 126), true)), [3], [4]⟩,
 ⟨some 128, .mv (.tmp 0), (some ((some 126), true)), [3], [0]⟩,
 ⟨some 129, .mv (.tmp 13), (some ((some 126), true)), [3], [13]⟩,
 ⟨some 130, .iaddr 1 (.tmp 128) (.tmp 129), (some ((some 126), true)), [5, 6, 3], [128, 129]⟩,
 ⟨some 131, .load false 1 (.tmp 130), (some ((some 126), true)), [7, 3], [130]⟩,
 ⟨some 132, .mv (.tmp 0), (some ((some 126), true)), [3], [0]⟩,
 ⟨some 133, .mv (.tmp 1), (some ((some 126), true)), [3], [1]⟩,
 ⟨some 134, .iaddr 1 (.tmp 132) (.tmp 133), (some ((some 126), true)), [9, 10, 3], [132, 133]⟩,
 ⟨some 135, .load false 1 (.tmp 134), (some ((some 126), true)), [11, 3], [134]⟩,
 ⟨some 136, .callv true (.tmp 127) [(.tmp 131), (.tmp 135)], (some ((some 126), true)), [4, 8, 12, 3, 3], [127, 131, 135]⟩,
 ⟨some 137, .bin .lss (.tmp 136) (.cst (.int .i64 0)), (some ((some 126), true)), [13, 3], [136]⟩,
 ⟨some 138, .un .not (.tmp 137), (some ((some 126), true)), [14, 3], [137]⟩,
 ⟨some 139, .pick (.tmp 126) (.tmp 138) (.cst (.bool false)), none, [3, 15], [126, 138]⟩])
  (.ghost (.kill [123, 124, 125, 126, 127, 128, 129, 130, 131, 132, 133, 134, 135, 136, 137, 138])))
  (.cond (.tmp 139) .skip
  (.exit 8)))
  (.block 9 (.seq (.region false [
 ⟨some 140, .mv (.tmp 13), none, [], []⟩,
 ⟨some 141, .bin .sub (.tmp 140) (.cst (.int .i64 1)), none, [], []⟩,
 ⟨some 13, .mv (.tmp 141), none, [], []⟩])
  (.ghost (.kill [139, 140, 141])))))
def slices_partitionCmpFunc_int.c2 : ACode := (.seq (.seq (.block 8 (.loop slices_partitionCmpFunc_int.b4))
  (.ghost (.kill [139])))
  slices_partitionCmpFunc_int.c1)
def slices_partitionCmpFunc_int.b3 : ACode := (.seq (.seq (.seq (.region true [
 ⟨some 105, .mv (.tmp 12), none, [], [12]⟩,
 ⟨some 106, .mv (.tmp 13), none, [], [13]⟩,
 ⟨some 107, .bin .leq (.tmp 105) (.tmp 106), none, [0, 1], [105, 106]⟩,
 ⟨some 108, .mv (.tmp 107), none, [2], [107]⟩,
 ⟨some 109, .mv (.tmp 4), (some ((some 108), true)), [3], [4]⟩,
 ⟨some 110, .mv (.tmp 0), (some ((some 108), true)), [3], [0]⟩,
 ⟨some 111, .mv (.tmp 12), (some ((some 108), true)), [3], [12]⟩,
 ⟨some 112, .iaddr 1 (.tmp 110) (.tmp 111), (some ((some 108), true)), [5, 6, 3], [110, 111]⟩,
 ⟨some 113, .load false 1 (.tmp 112), (some ((some 108), true)), [7, 3], [112]⟩,
 ⟨some 114, .mv (.tmp 0), (some ((some 108), true)), [3], [0]⟩,
 ⟨some 115, .mv (.tmp 1), (some ((some 108), true)), [3], [1]⟩,
 ⟨some 116, .iaddr 1 (.tmp 114) (.tmp 115), (some ((some 108), true)), [9, 10, 3], [114, 115]⟩,
 ⟨some 117, .load false 1 (.tmp 116), (some ((some 108), true)), [11, 3], [116]⟩,
 ⟨some 118, .callv true (.tmp 109) [(.tmp 113), (.tmp 117)], (some ((some 108), true)), [4, 8, 12, 3, 3], [109, 113, 117]⟩,
 ⟨some 119, .bin .lss (.tmp 118) (.cst (.int .i64 0)), (some ((some 108), true)), [13, 3], [118]⟩,
 ⟨some 120, .pick (.tmp 108) (.tmp 119) (.cst (.bool false)), none, [3, 14], [108, 119]⟩])
  (.ghost (.kill [105, 106, 107, 108, 109, 110, 111, 112, 113, 114, 115, 116, 117, 118, 119])))
  (.cond (.tmp 120) .skip
  (.exit 6)))
  (.block 7 (.seq (.region false [
 ⟨some 121, .mv (.tmp 12), none, [], []⟩,
 ⟨some 122, .bin .add (.tmp 121) (.cst (.int .i64 1)), none, [], []⟩,
 ⟨some 12, .mv (.tmp 122), none, [], []⟩])
  (.ghost (.kill [120, 121, 122])))))
def slices_partitionCmpFunc_int.b2 : ACode := (.block 5 (.seq (.seq (.block 6 (.loop slices_partitionCmpFunc_int.b3))
  (.ghost (.kill [120])))
  slices_partitionCmpFunc_int.c2))
def slices_partitionCmpFunc_int.c3 : ACode := (.seq (.seq (.seq (.region false [
 ⟨some 69, .mv (.tmp 12), none, [], []⟩,
 ⟨some 70, .mv (.tmp 13), none, [], []⟩,
 ⟨some 71, .bin .gtr (.tmp 69) (.tmp 70), none, [], []⟩])
  (.ghost (.kill [69, 70])))
  (.cond (.tmp 71) (.seq (.seq (.region true [
      ⟨some 72, .mv (.tmp 0), none, [], [0]⟩,
      ⟨some 73, .mv (.tmp 13), none, [], [13]⟩,
      ⟨some 74, .mv (.tmp 0), none, [], [0]⟩,
      ⟨some 75, .mv (.tmp 1), none, [], [1]⟩,
      ⟨some 76, .mv (.tmp 0), none, [], [0]⟩,
      ⟨some 77, .mv (.tmp 1), none, [], [1]⟩,
      ⟨some 78, .iaddr 1 (.tmp 76) (.tmp 77), none, [4, 5], [76, 77]⟩,
      ⟨some 79, .load false 1 (.tmp 78), none, [6], [78]⟩,
      ⟨some 80, .mv (.tmp 0), none, [], [0]⟩,
      ⟨some 81, .mv (.tmp 13), none, [], [13]⟩,
      ⟨some 82, .iaddr 1 (.tmp 80) (.tmp 81), none, [8, 9], [80, 81]⟩,
      ⟨some 83, .load false 1 (.tmp 82), none, [10], [82]⟩,
      ⟨some 84, .iaddr 1 (.tmp 72) (.tmp 73), none, [0, 1, 0, 1, 4, 5, 6, 7, 11], [72, 73]⟩,
      ⟨none, .store 1 (.tmp 84) (.tmp 79), none, [12, 7, 0, 1, 4, 5, 6, 7, 11], [84, 79]⟩,
      ⟨some 85, .iaddr 1 (.tmp 74) (.tmp 75), none, [2, 3, 0, 1, 2, 3, 4, 5, 6, 7, 8, 9, 10, 11, 12, 13], [74, 75]⟩,
      ⟨none, .store 1 (.tmp 85) (.tmp 83), none, [14, 11, 13, 0, 1, 2, 3, 4, 5, 6, 7, 8, 9, 10, 11, 12, 13], [85, 83]⟩])
    (.ghost (.kill [0, 1, 4, 12, 71, 72, 73, 74, 75, 76, 77, 78, 79, 80, 81, 82, 83, 84, 85])))
    (.seq (.region false [
      ⟨some 86, .mv (.tmp 13), none, [], []⟩,
      ⟨some 10, .mv (.tmp 86), none, [], []⟩,
      ⟨some 11, .mv (.cst (.bool true)), none, [], []⟩])
    .ret))
  .skip))
  (.seq (.seq (.region true [
 ⟨some 87, .mv (.tmp 0), none, [], [0]⟩,
 ⟨some 88, .mv (.tmp 12), none, [], [12]⟩,
 ⟨some 89, .mv (.tmp 0), none, [], [0]⟩,
 ⟨some 90, .mv (.tmp 13), none, [], [13]⟩,
 ⟨some 91, .mv (.tmp 0), none, [], [0]⟩,
 ⟨some 92, .mv (.tmp 13), none, [], [13]⟩,
 ⟨some 93, .iaddr 1 (.tmp 91) (.tmp 92), none, [4, 5], [91, 92]⟩,
 ⟨some 94, .load false 1 (.tmp 93), none, [6], [93]⟩,
 ⟨some 95, .mv (.tmp 0), none, [], [0]⟩,
 ⟨some 96, .mv (.tmp 12), none, [], [12]⟩,
 ⟨some 97, .iaddr 1 (.tmp 95) (.tmp 96), none, [8, 9], [95, 96]⟩,
 ⟨some 98, .load false 1 (.tmp 97), none, [10], [97]⟩,
 ⟨some 99, .iaddr 1 (.tmp 87) (.tmp 88), none, [0, 1, 0, 1, 4, 5, 6, 7, 11], [87, 88]⟩,
 ⟨none, .store 1 (.tmp 99) (.tmp 94), none, [12, 7, 0, 1, 4, 5, 6, 7, 11], [99, 94]⟩,
 ⟨some 100, .iaddr 1 (.tmp 89) (.tmp 90), none, [2, 3, 0, 1, 2, 3, 4, 5, 6, 7, 8, 9, 10, 11, 12, 13], [89, 90]⟩,
 ⟨none, .store 1 (.tmp 100) (.tmp 98), none, [14, 11, 13, 0, 1, 2, 3, 4, 5, 6, 7, 8, 9, 10, 11, 12, 13], [100, 98]⟩])
  (.ghost (.kill [71, 87, 88, 89, 90, 91, 92, 93, 94, 95, 96, 97, 98, 99, 100])))
  (.seq (.seq (.region false [
 ⟨some 101, .mv (.tmp 12), none, [], []⟩,
 ⟨some 102, .bin .add (.tmp 101) (.cst (.int .i64 1)), none, [], []⟩,
 ⟨some 12, .mv (.tmp 102), none, [], []⟩])
  (.ghost (.kill [101, 102])))
  (.seq (.seq (.region false [
 ⟨some 103, .mv (.tmp 13), none, [], []⟩,
 ⟨some 104, .bin .sub (.tmp 103) (.cst (.int .i64 1)), none, [], []⟩,
 ⟨some 13, .mv (.tmp 104), none, [], []⟩])
  (.ghost (.kill [103, 104])))
  (.seq (.seq (.block 4 (.loop slices_partitionCmpFunc_int.b2))
  (.ghost (.kill [4, 12, 144])))
  slices_partitionCmpFunc_int.c0)))))
def slices_partitionCmpFunc_int.b1 : ACode := (.seq (.seq (.seq (.region true [
 ⟨some 50, .mv (.tmp 12), none, [], [12]⟩,
 ⟨some 51, .mv (.tmp 13), none, [], [13]⟩,
 ⟨some 52, .bin .leq (.tmp 50) (.tmp 51), none, [0, 1], [50, 51]⟩,
 ⟨some 53, .mv (.tmp 52), none, [2], [52]⟩,
 ⟨some 54, .mv (.tmp 4), (some ((some 53), true)), [3], [4]⟩,
 ⟨some 55, .mv (.tmp 0), (some ((some 53), true)), [3], [0]⟩,
 ⟨some 56, .mv (.tmp 13), (some ((some 53), true)), [3], [13]⟩,
 ⟨some 57, .iaddr 1 (.tmp 55) (.tmp 56), (some ((some 53), true)), [5, 6, 3], [55, 56]⟩,
 ⟨some 58, .load false 1 (.tmp 57), (some ((some 53), true)), [7, 3], [57]⟩,
 ⟨some 59, .mv (.tmp 0), (some ((some 53), true)), [3], [0]⟩,
 ⟨some 60, .mv (.tmp 1), (some ((some 53), true)), [3], [1]⟩,
 ⟨some 61, .iaddr 1 (.tmp 59) (.tmp 60), (some ((some 53), true)), [9, 10, 3], [59, 60]⟩,
 ⟨some 62, .load false 1 (.tmp 61), (some ((some 53), true)), [11, 3], [61]⟩,
 ⟨some 63, .callv true (.tmp 54) [(.tmp 58), (.tmp 62)], (some ((some 53), true)), [4, 8, 12, 3, 3], [54, 58, 62]⟩,
 ⟨some 64, .bin .lss (.tmp 63) (.cst (.int .i64 0)), (some ((some 53), true)), [13, 3], [63]⟩,
 ⟨some 65, .un .not (.tmp 64), (some ((some 53), true)), [14, 3], [64]⟩,
 ⟨some 66, .pick (.tmp 53) (.tmp 65) (.cst (.bool false)), none, [3, 15], [53, 65]⟩])
  (.ghost (.kill [50, 51, 52, 53, 54, 55, 56, 57, 58, 59, 60, 61, 62, 63, 64, 65])))
  (.cond (.tmp 66) .skip
  (.exit 2)))
  (.block 3 (.seq (.region false [
 ⟨some 67, .mv (.tmp 13), none, [], []⟩,
 ⟨some 68, .bin .sub (.tmp 67) (.cst (.int .i64 1)), none, [], []⟩,
 ⟨some 13, .mv (.tmp 68), none, [], []⟩])
  (.ghost (.kill [66, 67, 68])))))
def slices_partitionCmpFunc_int.c4 : ACode := (.seq (.seq (.block 2 (.loop slices_partitionCmpFunc_int.b1))
  (.ghost (.kill [66])))
  slices_partitionCmpFunc_int.c3)
def slices_partitionCmpFunc_int.b0 : ACode := (.seq (.seq (.seq (.region true [
 ⟨some 32, .mv (.tmp 12), none, [], [12]⟩,
 ⟨some 33, .mv (.tmp 13), none, [], [13]⟩,
 ⟨some 34, .bin .leq (.tmp 32) (.tmp 33), none, [0, 1], [32, 33]⟩,
 ⟨some 35, .mv (.tmp 34), none, [2], [34]⟩,
 ⟨some 36, .mv (.tmp 4), (some ((some 35), true)), [3], [4]⟩,
 ⟨some 37, .mv (.tmp 0), (some ((some 35), true)), [3], [0]⟩,
 ⟨some 38, .mv (.tmp 12), (some ((some 35), true)), [3], [12]⟩,
 ⟨some 39, .iaddr 1 (.tmp 37) (.tmp 38), (some ((some 35), true)), [5, 6, 3], [37, 38]⟩,
 ⟨some 40, .load false 1 (.tmp 39), (some ((some 35), true)), [7, 3], [39]⟩,
 ⟨some 41, .mv (.tmp 0), (some ((some 35), true)), [3], [0]⟩,
 ⟨some 42, .mv (.tmp 1), (some ((some 35), true)), [3], [1]⟩,
 ⟨some 43, .iaddr 1 (.tmp 41) (.tmp 42), (some ((some 35), true)), [9, 10, 3], [41, 42]⟩,
 ⟨some 44, .load false 1 (.tmp 43), (some ((some 35), true)), [11, 3], [43]⟩,
 ⟨some 45, .callv true (.tmp 36) [(.tmp 40), (.tmp 44)], (some ((some 35), true)), [4, 8, 12, 3, 3], [36, 40, 44]⟩,
 ⟨some 46, .bin .lss (.tmp 45) (.cst (.int .i64 0)), (some ((some 35), true)), [13, 3], [45]⟩,
 ⟨some 47, .pick (.tmp 35) (.tmp 46) (.cst (.bool false)), none, [3, 14], [35, 46]⟩])
  (.ghost (.kill [32, 33, 34, 35, 36, 37, 38, 39, 40, 41, 42, 43, 44, 45, 46])))
  (.cond (.tmp 47) .skip
  (.exit 0)))
  (.block 1 (.seq (.region false [
 ⟨some 48, .mv (.tmp 12), none, [], []⟩,
 ⟨some 49, .bin .add (.tmp 48) (.cst (.int .i64 1)), none, [], []⟩,
 ⟨some 12, .mv (.tmp 49), none, [], []⟩])
  (.ghost (.kill [47, 48, 49])))))
def slices_partitionCmpFunc_int.main : ACode := (.seq (.seq (.region false [
 ⟨some 10, .mv (.cst (.int .i64 0)), none, [], []⟩,
 ⟨some 11, .mv (.cst (.bool false)), none, [], []⟩])
  (.ghost (.kill [10, 11])))
  (.seq (.seq (.region true [
 ⟨some 14, .mv (.tmp 0), none, [], [0]⟩,
 ⟨some 15, .mv (.tmp 1), none, [], [1]⟩,
 ⟨some 16, .mv (.tmp 0), none, [], [0]⟩,
 ⟨some 17, .mv (.tmp 3), none, [], [3]⟩,
 ⟨some 18, .mv (.tmp 0), none, [], [0]⟩,
 ⟨some 19, .mv (.tmp 3), none, [], [3]⟩,
 ⟨some 20, .iaddr 1 (.tmp 18) (.tmp 19), none, [4, 5], [18, 19]⟩,
 ⟨some 21, .load false 1 (.tmp 20), none, [6], [20]⟩,
 ⟨some 22, .mv (.tmp 0), none, [], [0]⟩,
 ⟨some 23, .mv (.tmp 1), none, [], [1]⟩,
 ⟨some 24, .iaddr 1 (.tmp 22) (.tmp 23), none, [8, 9], [22, 23]⟩,
 ⟨some 25, .load false 1 (.tmp 24), none, [10], [24]⟩,
 ⟨some 26, .iaddr 1 (.tmp 14) (.tmp 15), none, [0, 1, 0, 1, 4, 5, 6, 7, 11], [14, 15]⟩,
 ⟨none, .store 1 (.tmp 26) (.tmp 21), none, [12, 7, 0, 1, 4, 5, 6, 7, 11], [26, 21]⟩,
 ⟨some 27, .iaddr 1 (.tmp 16) (.tmp 17), none, [2, 3, 0, 1, 2, 3, 4, 5, 6, 7, 8, 9, 10, 11, 12, 13], [16, 17]⟩,
 ⟨none, .store 1 (.tmp 27) (.tmp 25), none, [14, 11, 13, 0, 1, 2, 3, 4, 5, 6, 7, 8, 9, 10, 11, 12, 13], [27, 25]⟩])
  (.ghost (.kill [3, 14, 15, 16, 17, 18, 19, 20, 21, 22, 23, 24, 25, 26, 27])))
  (.seq (.seq (.region false [
 ⟨some 28, .mv (.tmp 1), none, [], []⟩,
 ⟨some 29, .bin .add (.tmp 28) (.cst (.int .i64 1)), none, [], []⟩,
 ⟨some 30, .mv (.tmp 2), none, [], []⟩,
 ⟨some 31, .bin .sub (.tmp 30) (.cst (.int .i64 1)), none, [], []⟩,
 ⟨some 12, .mv (.tmp 29), none, [], []⟩,
 ⟨some 13, .mv (.tmp 31), none, [], []⟩])
  (.ghost (.kill [2, 28, 29, 30, 31])))
  (.seq (.seq (.block 0 (.loop slices_partitionCmpFunc_int.b0))
  (.ghost (.kill [47])))
  slices_partitionCmpFunc_int.c4))))
def slices_partitionCmpFunc_int.k4 : List Item := [.inBlock 8, .code (.ghost (.kill [139])), .code slices_partitionCmpFunc_int.c1, .inBlock 5, .inLoop slices_partitionCmpFunc_int.b2, .inBlock 4, .code (.ghost (.kill [4, 12, 144])), .code slices_partitionCmpFunc_int.c0]
def slices_partitionCmpFunc_int.k3 : List Item := [.inBlock 6, .code (.ghost (.kill [120])), .code slices_partitionCmpFunc_int.c2, .inBlock 5, .inLoop slices_partitionCmpFunc_int.b2, .inBlock 4, .code (.ghost (.kill [4, 12, 144])), .code slices_partitionCmpFunc_int.c0]
def slices_partitionCmpFunc_int.k2 : List Item := [.inBlock 4, .code (.ghost (.kill [4, 12, 144])), .code slices_partitionCmpFunc_int.c0]
def slices_partitionCmpFunc_int.k1 : List Item := [.inBlock 2, .code (.ghost (.kill [66])), .code slices_partitionCmpFunc_int.c3]
def slices_partitionCmpFunc_int.k0 : List Item := [.inBlock 0, .code (.ghost (.kill [47])), .code slices_partitionCmpFunc_int.c4]
def slices_partitionCmpFunc_int : AFunc := ⟨178, [.tmp 10, .tmp 11], slices_partitionCmpFunc_int.main⟩
/-- math/bits.Len32 -/
def bits_Len32.c0 : ACode := (.seq (.region false [
 ⟨some 13, .mv (.tmp 2), none, [], []⟩,
 ⟨some 14, .mv (.tmp 0), none, [], []⟩,
 ⟨some 15, .conv .u8 (.tmp 14), none, [], []⟩,
 ⟨some 16, .idxS (.cst (.str ⟨#[0, 1, 2, 2, 3, 3, 3, 3, 4, 4, 4, 4, 4, 4, 4, 4, 5, 5, 5, 5, 5, 5, 5, 5, 5, 5, 5, 5, 5, 5, 5, 5, 6, 6, 6, 6, 6, 6, 6, 6, 6, 6, 6, 6, 6, 6, 6, 6, 6, 6, 6, 6, 6, 6, 6, 6, 6, 6, 6, 6, 6, 6, 6, 6, 7, 7, 7, 7, 7, 7, 7, 7, 7, 7, 7, 7, 7, 7, 7, 7, 7, 7, 7, 7, 7, 7, 7, 7, 7, 7, 7, 7, 7, 7, 7, 7, 7, 7, 7, 7, 7, 7, 7, 7, 7, 7, 7, 7, 7, 7, 7, 7, 7, 7, 7, 7, 7, 7, 7, 7, 7, 7, 7, 7, 7, 7, 7, 7, 8, 8, 8, 8, 8, 8, 8, 8, 8, 8, 8, 8, 8, 8, 8, 8, 8, 8, 8, 8, 8, 8, 8, 8, 8, 8, 8, 8, 8, 8, 8, 8, 8, 8, 8, 8, 8, 8, 8, 8, 8, 8, 8, 8, 8, 8, 8, 8, 8, 8, 8, 8, 8, 8, 8, 8, 8, 8, 8, 8, 8, 8, 8, 8, 8, 8, 8, 8, 8, 8, 8, 8, 8, 8, 8, 8, 8, 8, 8, 8, 8, 8, 8, 8, 8, 8, 8, 8, 8, 8, 8, 8, 8, 8, 8, 8, 8, 8, 8, 8, 8, 8, 8, 8, 8, 8, 8, 8, 8, 8, 8, 8, 8, 8, 8, 8, 8, 8, 8, 8, 8, 8, 8, 8, 8, 8, 8, 8]⟩)) (.tmp 15), none, [], []⟩,
 ⟨some 17, .conv .i64 (.tmp 16), none, [], []⟩,
 ⟨some 18, .bin .add (.tmp 13) (.tmp 17), none, [], []⟩,
 ⟨some 2, .mv (.tmp 18), none, [], []⟩])
  .ret)
def bits_Len32.c1 : ACode := (.seq (.seq (.seq (.region false [
 ⟨some 7, .mv (.tmp 0), none, [], []⟩,
 ⟨some 8, .bin .geq (.tmp 7) (.cst (.int .u32 256)), none, [], []⟩])
  (.ghost (.kill [7])))
  (.seq (.cond (.tmp 8) (.seq (.seq (.region false [
      ⟨some 9, .mv (.tmp 0), none, [], []⟩,
      ⟨some 10, .bin .shr (.tmp 9) (.cst (.int .u64 8)), none, [], []⟩,
      ⟨some 0, .mv (.tmp 10), none, [], []⟩])
    (.ghost (.kill [8, 9, 10])))
    (.seq (.region false [
      ⟨some 11, .mv (.tmp 2), none, [], []⟩,
      ⟨some 12, .bin .add (.tmp 11) (.cst (.int .i64 8)), none, [], []⟩,
      ⟨some 2, .mv (.tmp 12), none, [], []⟩])
    (.ghost (.kill [11, 12]))))
  .skip)
  (.ghost (.kill [8]))))
  bits_Len32.c0)
def bits_Len32.main : ACode := (.seq (.region false [
 ⟨some 2, .mv (.cst (.int .i64 0)), none, [], []⟩])
  (.seq (.seq (.seq (.region false [
 ⟨some 3, .mv (.tmp 0), none, [], []⟩,
 ⟨some 4, .bin .geq (.tmp 3) (.cst (.int .u32 65536)), none, [], []⟩])
  (.ghost (.kill [3])))
  (.seq (.cond (.tmp 4) (.seq (.seq (.region false [
      ⟨some 5, .mv (.tmp 0), none, [], []⟩,
      ⟨some 6, .bin .shr (.tmp 5) (.cst (.int .u64 16)), none, [], []⟩,
      ⟨some 0, .mv (.tmp 6), none, [], []⟩])
    (.ghost (.kill [2, 4, 5, 6])))
    (.region false [
      ⟨some 2, .mv (.cst (.int .i64 16)), none, [], []⟩]))
  .skip)
  (.ghost (.kill [4]))))
  bits_Len32.c1))
def bits_Len32 : AFunc := ⟨19, [.tmp 2], bits_Len32.main⟩
/-- math/bits.Len64 -/
def bits_Len64.c0 : ACode := (.seq (.region false [
 ⟨some 19, .mv (.tmp 2), none, [], []⟩,
 ⟨some 20, .mv (.tmp 0), none, [], []⟩,
 ⟨some 21, .conv .u8 (.tmp 20), none, [], []⟩,
 ⟨some 22, .idxS (.cst (.str ⟨#[0, 1, 2, 2, 3, 3, 3, 3, 4, 4, 4, 4, 4, 4, 4, 4, 5, 5, 5, 5, 5, 5, 5, 5, 5, 5, 5, 5, 5, 5, 5, 5, 6, 6, 6, 6, 6, 6, 6, 6, 6, 6, 6, 6, 6, 6, 6, 6, 6, 6, 6, 6, 6, 6, 6, 6, 6, 6, 6, 6, 6, 6, 6, 6, 7, 7, 7, 7, 7, 7, 7, 7, 7, 7, 7, 7, 7, 7, 7, 7, 7, 7, 7, 7, 7, 7, 7, 7, 7, 7, 7, 7, 7, 7, 7, 7, 7, 7, 7, 7, 7, 7, 7, 7, 7, 7, 7, 7, 7, 7, 7, 7, 7, 7, 7, 7, 7, 7, 7, 7, 7, 7, 7, 7, 7, 7, 7, 7, 8, 8, 8, 8, 8, 8, 8, 8, 8, 8, 8, 8, 8, 8, 8, 8, 8, 8, 8, 8, 8, 8, 8, 8, 8, 8, 8, 8, 8, 8, 8, 8, 8, 8, 8, 8, 8, 8, 8, 8, 8, 8, 8, 8, 8, 8, 8, 8, 8, 8, 8, 8, 8, 8, 8, 8, 8, 8, 8, 8, 8, 8, 8, 8, 8, 8, 8, 8, 8, 8, 8, 8, 8, 8, 8, 8, 8, 8, 8, 8, 8, 8, 8, 8, 8, 8, 8, 8, 8, 8, 8, 8, 8, 8, 8, 8, 8, 8, 8, 8, 8, 8, 8, 8, 8, 8, 8, 8, 8, 8, 8, 8, 8, 8, 8, 8, 8, 8, 8, 8, 8, 8, 8, 8, 8, 8, 8, 8]⟩)) (.tmp 21), none, [], []⟩,
 ⟨some 23, .conv .i64 (.tmp 22), none, [], []⟩,
 ⟨some 24, .bin .add (.tmp 19) (.tmp 23), none, [], []⟩,
 ⟨some 2, .mv (.tmp 24), none, [], []⟩])
  .ret)
def bits_Len64.c1 : ACode := (.seq (.seq (.seq (.region false [
 ⟨some 13, .mv (.tmp 0), none, [], []⟩,
 ⟨some 14, .bin .geq (.tmp 13) (.cst (.int .u64 256)), none, [], []⟩])
  (.ghost (.kill [13])))
  (.seq (.cond (.tmp 14) (.seq (.seq (.region false [
      ⟨some 15, .mv (.tmp 0), none, [], []⟩,
      ⟨some 16, .bin .shr (.tmp 15) (.cst (.int .u64 8)), none, [], []⟩,
      ⟨some 0, .mv (.tmp 16), none, [], []⟩])
    (.ghost (.kill [14, 15, 16])))
    (.seq (.region false [
      ⟨some 17, .mv (.tmp 2), none, [], []⟩,
      ⟨some 18, .bin .add (.tmp 17) (.cst (.int .i64 8)), none, [], []⟩,
      ⟨some 2, .mv (.tmp 18), none, [], []⟩])
    (.ghost (.kill [17, 18]))))
  .skip)
  (.ghost (.kill [14]))))
  bits_Len64.c0)
def bits_Len64.c2 : ACode := (.seq (.seq (.seq (.region false [
 ⟨some 7, .mv (.tmp 0), none, [], []⟩,
 ⟨some 8, .bin .geq (.tmp 7) (.cst (.int .u64 65536)), none, [], []⟩])
  (.ghost (.kill [7])))
  (.seq (.cond (.tmp 8) (.seq (.seq (.region false [
      ⟨some 9, .mv (.tmp 0), none, [], []⟩,
      ⟨some 10, .bin .shr (.tmp 9) (.cst (.int .u64 16)), none, [], []⟩,
      ⟨some 0, .mv (.tmp 10), none, [], []⟩])
    (.ghost (.kill [8, 9, 10])))
    (.seq (.region false [
      ⟨some 11, .mv (.tmp 2), none, [], []⟩,
      ⟨some 12, .bin .add (.tmp 11) (.cst (.int .i64 16)), none, [], []⟩,
      ⟨some 2, .mv (.tmp 12), none, [], []⟩])
    (.ghost (.kill [11, 12]))))
  .skip)
  (.ghost (.kill [8]))))
  bits_Len64.c1)
def bits_Len64.main : ACode := (.seq (.region false [
 ⟨some 2, .mv (.cst (.int .i64 0)), none, [], []⟩])
  (.seq (.seq (.seq (.region false [
 ⟨some 3, .mv (.tmp 0), none, [], []⟩,
 ⟨some 4, .bin .geq (.tmp 3) (.cst (.int .u64 4294967296)), none, [], []⟩])
  (.ghost (.kill [3])))
  (.seq (.cond (.tmp 4) (.seq (.seq (.region false [
      ⟨some 5, .mv (.tmp 0), none, [], []⟩,
      ⟨some 6, .bin .shr (.tmp 5) (.cst (.int .u64 32)), none, [], []⟩,
      ⟨some 0, .mv (.tmp 6), none, [], []⟩])
    (.ghost (.kill [2, 4, 5, 6])))
    (.region false [
      ⟨some 2, .mv (.cst (.int .i64 32)), none, [], []⟩]))
  .skip)
  (.ghost (.kill [4]))))
  bits_Len64.c2))
def bits_Len64 : AFunc := ⟨25, [.tmp 2], bits_Len64.main⟩
/-- cmp.isNaN[int] -/
def cmp_isNaN_int.main : ACode := (.seq (.seq (.region false [
 ⟨some 2, .mv (.cst (.bool false)), none, [], []⟩])
  (.ghost (.kill [2])))
  (.seq (.region false [
 ⟨some 3, .mv (.tmp 0), none, [], []⟩,
 ⟨some 4, .mv (.tmp 0), none, [], []⟩,
 ⟨some 5, .bin .neq (.tmp 3) (.tmp 4), none, [], []⟩,
 ⟨some 2, .mv (.tmp 5), none, [], []⟩])
  .ret))
def cmp_isNaN_int : AFunc := ⟨6, [.tmp 2], cmp_isNaN_int.main⟩
/-- slices.IndexFunc[[]int,int] -/
def slices_IndexFunc_int.c0 : ACode := (.seq (.region false [
 ⟨some 4, .mv (.cst (.int .i64 (-1))), none, [], []⟩])
  .ret)
def slices_IndexFunc_int.c1 : ACode := (.ghost (.kill [0, 1, 7, 8, 9]))
def slices_IndexFunc_int.b0 : ACode := (.seq (.region false [
 ⟨some 9, .bin .lss (.tmp 8) (.tmp 7), none, [], []⟩])
  (.seq (.cond (.tmp 9) .skip
  (.exit 0))
  (.seq (.seq (.block 1 (.seq (.seq (.region false [
 ⟨some 10, .mv (.tmp 8), none, [], []⟩,
 ⟨some 5, .mv (.tmp 10), none, [], []⟩])
  (.ghost (.kill [9, 10])))
  (.seq (.seq (.region false [
 ⟨some 11, .mv (.tmp 1), none, [], []⟩,
 ⟨some 12, .mv (.tmp 0), none, [], []⟩,
 ⟨some 13, .mv (.tmp 5), none, [], []⟩,
 ⟨some 14, .iaddr 1 (.tmp 12) (.tmp 13), none, [], []⟩,
 ⟨some 15, .load false 1 (.tmp 14), none, [], []⟩,
 ⟨some 16, .callv true (.tmp 11) [(.tmp 15)], none, [], []⟩])
  (.ghost (.kill [11, 12, 13, 14, 15])))
  (.cond (.tmp 16) (.seq (.region false [
      ⟨some 17, .mv (.tmp 5), none, [], []⟩,
      ⟨some 4, .mv (.tmp 17), none, [], []⟩])
    .ret)
  .skip))))
  (.ghost (.kill [5, 16])))
  (.seq (.region false [
 ⟨some 18, .bin .add (.tmp 8) (.cst (.int .i64 1)), none, [], []⟩,
 ⟨some 8, .mv (.tmp 18), none, [], []⟩])
  (.ghost (.kill [18]))))))
def slices_IndexFunc_int.main : ACode := (.seq (.seq (.region false [
 ⟨some 4, .mv (.cst (.int .i64 0)), none, [], []⟩])
  (.ghost (.kill [4])))
  (.seq (.seq (.seq (.region false [
 ⟨some 6, .mv (.tmp 0), none, [], []⟩,
 ⟨some 7, .len .sl (.tmp 6), none, [], []⟩,
 ⟨some 8, .mv (.cst (.int .i64 0)), none, [], []⟩])
  (.ghost (.kill [6])))
  (.seq (.block 0 (.loop slices_IndexFunc_int.b0))
  slices_IndexFunc_int.c1))
  slices_IndexFunc_int.c0))
def slices_IndexFunc_int.k0 : List Item := [.inBlock 0, .code slices_IndexFunc_int.c1, .code slices_IndexFunc_int.c0]
def slices_IndexFunc_int : AFunc := ⟨19, [.tmp 4], slices_IndexFunc_int.main⟩
/-- slices.rotateCmpFunc[chapman/api.Commit] -/
def slices_rotateCmpFunc_Commit.c0 : ACode := (.seq (.region false [
 ⟨some 50, .mv (.tmp 0), none, [], []⟩,
 ⟨some 51, .mv (.tmp 2), none, [], []⟩,
 ⟨some 52, .mv (.tmp 10), none, [], []⟩,
 ⟨some 53, .bin .sub (.tmp 51) (.tmp 52), none, [], []⟩,
 ⟨some 54, .mv (.tmp 2), none, [], []⟩,
 ⟨some 55, .mv (.tmp 10), none, [], []⟩,
 ⟨some 56, .mv (.tmp 4), none, [], []⟩,
 ⟨some 57, .call false i_slices_swapRangeCmpFunc_Commit [(.tmp 50), (.tmp 53), (.tmp 54), (.tmp 55), (.tmp 56)], none, [], []⟩])
  (.ghost (.kill [0, 2, 4, 10, 50, 51, 52, 53, 54, 55, 56, 57])))
def slices_rotateCmpFunc_Commit.b0 : ACode := (.seq (.seq (.seq (.region false [
 ⟨some 18, .mv (.tmp 10), none, [], []⟩,
 ⟨some 19, .mv (.tmp 11), none, [], []⟩,
 ⟨some 20, .bin .neq (.tmp 18) (.tmp 19), none, [], []⟩])
  (.ghost (.kill [18, 19])))
  (.cond (.tmp 20) .skip
  (.exit 0)))
  (.trunc (.block 1 (.seq (.seq (.region false [
 ⟨some 21, .mv (.tmp 10), none, [], []⟩,
 ⟨some 22, .mv (.tmp 11), none, [], []⟩,
 ⟨some 23, .bin .gtr (.tmp 21) (.tmp 22), none, [], []⟩])
  (.ghost (.kill [20, 21, 22])))
  (.cond (.tmp 23) (.seq (.seq (.region false [
      ⟨some 24, .mv (.tmp 0), none, [], []⟩,
      ⟨some 25, .mv (.tmp 2), none, [], []⟩,
      ⟨some 26, .mv (.tmp 10), none, [], []⟩,
      ⟨some 27, .bin .sub (.tmp 25) (.tmp 26), none, [], []⟩,
      ⟨some 28, .mv (.tmp 2), none, [], []⟩,
      ⟨some 29, .mv (.tmp 11), none, [], []⟩,
      ⟨some 30, .mv (.tmp 4), none, [], []⟩,
      ⟨some 31, .call false i_slices_swapRangeCmpFunc_Commit [(.tmp 24), (.tmp 27), (.tmp 28), (.tmp 29), (.tmp 30)], none, [], []⟩])
    (.ghost (.kill [23, 24, 25, 26, 27, 28, 29, 30, 31])))
    (.seq (.region false [
      ⟨some 32, .mv (.tmp 10), none, [], []⟩,
      ⟨some 33, .mv (.tmp 11), none, [], []⟩,
      ⟨some 34, .bin .sub (.tmp 32) (.tmp 33), none, [], []⟩,
      ⟨some 10, .mv (.tmp 34), none, [], []⟩])
    (.ghost (.kill [32, 33, 34]))))
  (.seq (.seq (.region false [
      ⟨some 35, .mv (.tmp 0), none, [], []⟩,
      ⟨some 36, .mv (.tmp 2), none, [], []⟩,
      ⟨some 37, .mv (.tmp 10), none, [], []⟩,
      ⟨some 38, .bin .sub (.tmp 36) (.tmp 37), none, [], []⟩,
      ⟨some 39, .mv (.tmp 2), none, [], []⟩,
      ⟨some 40, .mv (.tmp 11), none, [], []⟩,
      ⟨some 41, .bin .add (.tmp 39) (.tmp 40), none, [], []⟩,
      ⟨some 42, .mv (.tmp 10), none, [], []⟩,
      ⟨some 43, .bin .sub (.tmp 41) (.tmp 42), none, [], []⟩,
      ⟨some 44, .mv (.tmp 10), none, [], []⟩,
      ⟨some 45, .mv (.tmp 4), none, [], []⟩,
      ⟨some 46, .call false i_slices_swapRangeCmpFunc_Commit [(.tmp 35), (.tmp 38), (.tmp 43), (.tmp 44), (.tmp 45)], none, [], []⟩])
    (.ghost (.kill [23, 35, 36, 37, 38, 39, 40, 41, 42, 43, 44, 45, 46])))
    (.seq (.region false [
      ⟨some 47, .mv (.tmp 11), none, [], []⟩,
      ⟨some 48, .mv (.tmp 10), none, [], []⟩,
      ⟨some 49, .bin .sub (.tmp 47) (.tmp 48), none, [], []⟩,
      ⟨some 11, .mv (.tmp 49), none, [], []⟩])
    (.ghost (.kill [47, 48, 49])))))))))
def slices_rotateCmpFunc_Commit.main : ACode := (.seq (.seq (.region false [
 ⟨some 12, .mv (.tmp 2), none, [], []⟩,
 ⟨some 13, .mv (.tmp 1), none, [], []⟩,
 ⟨some 14, .bin .sub (.tmp 12) (.tmp 13), none, [], []⟩,
 ⟨some 10, .mv (.tmp 14), none, [], []⟩])
  (.ghost (.kill [1, 12, 13, 14])))
  (.seq (.seq (.region false [
 ⟨some 15, .mv (.tmp 3), none, [], []⟩,
 ⟨some 16, .mv (.tmp 2), none, [], []⟩,
 ⟨some 17, .bin .sub (.tmp 15) (.tmp 16), none, [], []⟩,
 ⟨some 11, .mv (.tmp 17), none, [], []⟩])
  (.ghost (.kill [3, 15, 16, 17])))
  (.seq (.seq (.block 0 (.loop slices_rotateCmpFunc_Commit.b0))
  (.ghost (.kill [11, 20])))
  slices_rotateCmpFunc_Commit.c0)))
def slices_rotateCmpFunc_Commit.k0 : List Item := [.inBlock 0, .code (.ghost (.kill [11, 20])), .code slices_rotateCmpFunc_Commit.c0]
def slices_rotateCmpFunc_Commit : AFunc := ⟨58, [], slices_rotateCmpFunc_Commit.main⟩
/-- slices.siftDownCmpFunc[int] -/
def slices_siftDownCmpFunc_int.c0 : ACode := (.ghost (.kill [0, 2, 3, 4, 10, 11, 18]))
def slices_siftDownCmpFunc_int.c1 : ACode := (.seq (.seq (.seq (.region true [
 ⟨some 43, .mv (.tmp 4), none, [], [4]⟩,
 ⟨some 44, .mv (.tmp 0), none, [], [0]⟩,
 ⟨some 45, .mv (.tmp 3), none, [], [3]⟩,
 ⟨some 46, .mv (.tmp 10), none, [], [10]⟩,
 ⟨some 47, .bin .add (.tmp 45) (.tmp 46), none, [2, 3], [45, 46]⟩,
 ⟨some 48, .iaddr 1 (.tmp 44) (.tmp 47), none, [1, 4], [44, 47]⟩,
 ⟨some 49, .load false 1 (.tmp 48), none, [5], [48]⟩,
 ⟨some 50, .mv (.tmp 0), none, [], [0]⟩,
 ⟨some 51, .mv (.tmp 3), none, [], [3]⟩,
 ⟨some 52, .mv (.tmp 11), none, [], [11]⟩,
 ⟨some 53, .bin .add (.tmp 51) (.tmp 52), none, [8, 9], [51, 52]⟩,
 ⟨some 54, .iaddr 1 (.tmp 50) (.tmp 53), none, [7, 10], [50, 53]⟩,
 ⟨some 55, .load false 1 (.tmp 54), none, [11], [54]⟩,
 ⟨some 56, .callv true (.tmp 43) [(.tmp 49), (.tmp 55)], none, [0, 6, 12], [43, 49, 55]⟩,
 ⟨some 57, .bin .lss (.tmp 56) (.cst (.int .i64 0)), none, [13], [56]⟩,
 ⟨some 58, .un .not (.tmp 57), none, [14], [57]⟩])
  (.ghost (.kill [43, 44, 45, 46, 47, 48, 49, 50, 51, 52, 53, 54, 55, 56, 57])))
  (.cond (.tmp 58) .ret
  .skip))
  (.seq (.seq (.region true [
 ⟨some 59, .mv (.tmp 0), none, [], [0]⟩,
 ⟨some 60, .mv (.tmp 3), none, [], [3]⟩,
 ⟨some 61, .mv (.tmp 10), none, [], [10]⟩,
 ⟨some 62, .bin .add (.tmp 60) (.tmp 61), none, [1, 2], [60, 61]⟩,
 ⟨some 63, .mv (.tmp 0), none, [], [0]⟩,
 ⟨some 64, .mv (.tmp 3), none, [], [3]⟩,
 ⟨some 65, .mv (.tmp 11), none, [], [11]⟩,
 ⟨some 66, .bin .add (.tmp 64) (.tmp 65), none, [5, 6], [64, 65]⟩,
 ⟨some 67, .mv (.tmp 0), none, [], [0]⟩,
 ⟨some 68, .mv (.tmp 3), none, [], [3]⟩,
 ⟨some 69, .mv (.tmp 11), none, [], [11]⟩,
 ⟨some 70, .bin .add (.tmp 68) (.tmp 69), none, [9, 10], [68, 69]⟩,
 ⟨some 71, .iaddr 1 (.tmp 67) (.tmp 70), none, [8, 11], [67, 70]⟩,
 ⟨some 72, .load false 1 (.tmp 71), none, [12], [71]⟩,
 ⟨some 73, .mv (.tmp 0), none, [], [0]⟩,
 ⟨some 74, .mv (.tmp 3), none, [], [3]⟩,
 ⟨some 75, .mv (.tmp 10), none, [], [10]⟩,
 ⟨some 76, .bin .add (.tmp 74) (.tmp 75), none, [15, 16], [74, 75]⟩,
 ⟨some 77, .iaddr 1 (.tmp 73) (.tmp 76), none, [14, 17], [73, 76]⟩,
 ⟨some 78, .load false 1 (.tmp 77), none, [18], [77]⟩,
 ⟨some 79, .iaddr 1 (.tmp 59) (.tmp 62), none, [0, 3, 0, 1, 2, 3, 8, 9, 10, 11, 12, 13, 19], [59, 62]⟩,
 ⟨none, .store 1 (.tmp 79) (.tmp 72), none, [20, 13, 0, 1, 2, 3, 8, 9, 10, 11, 12, 13, 19], [79, 72]⟩,
 ⟨some 80, .iaddr 1 (.tmp 63) (.tmp 66), none, [4, 7, 0, 1, 2, 3, 4, 5, 6, 7, 8, 9, 10, 11, 12, 13, 14, 15, 16, 17, 18, 19, 20, 21], [63, 66]⟩,
 ⟨none, .store 1 (.tmp 80) (.tmp 78), none, [22, 19, 21, 0, 1, 2, 3, 4, 5, 6, 7, 8, 9, 10, 11, 12, 13, 14, 15, 16, 17, 18, 19, 20, 21], [80, 78]⟩])
  (.ghost (.kill [10, 58, 59, 60, 61, 62, 63, 64, 65, 66, 67, 68, 69, 70, 71, 72, 73, 74, 75, 76, 77, 78, 79, 80])))
  (.seq (.region false [
 ⟨some 81, .mv (.tmp 11), none, [], []⟩,
 ⟨some 10, .mv (.tmp 81), none, [], []⟩])
  (.ghost (.kill [11, 81])))))
def slices_siftDownCmpFunc_int.b0 : ACode := (.block 1 (.seq (.seq (.region false [
 ⟨some 13, .mv (.tmp 10), none, [], []⟩,
 ⟨some 14, .bin .mul (.cst (.int .i64 2)) (.tmp 13), none, [], []⟩,
 ⟨some 15, .bin .add (.tmp 14) (.cst (.int .i64 1)), none, [], []⟩,
 ⟨some 11, .mv (.tmp 15), none, [], []⟩])
  (.ghost (.kill [13, 14, 15])))
  (.seq (.seq (.seq (.region false [
 ⟨some 16, .mv (.tmp 11), none, [], []⟩,
 ⟨some 17, .mv (.tmp 2), none, [], []⟩,
 ⟨some 18, .bin .geq (.tmp 16) (.tmp 17), none, [], []⟩])
  (.ghost (.kill [16, 17])))
  (.cond (.tmp 18) (.exit 0)
  .skip))
  (.seq (.seq (.seq (.region true [
 ⟨some 19, .mv (.tmp 11), none, [], [11]⟩,
 ⟨some 20, .bin .add (.tmp 19) (.cst (.int .i64 1)), none, [0], [19]⟩,
 ⟨some 21, .mv (.tmp 2), none, [], [2]⟩,
 ⟨some 22, .bin .lss (.tmp 20) (.tmp 21), none, [1, 2], [20, 21]⟩,
 ⟨some 23, .mv (.tmp 22), none, [3], [22]⟩,
 ⟨some 24, .mv (.tmp 4), (some ((some 23), true)), [4], [4]⟩,
 ⟨some 25, .mv (.tmp 0), (some ((some 23), true)), [4], [0]⟩,
 ⟨some 26, .mv (.tmp 3), (some ((some 23), true)), [4], [3]⟩,
 ⟨some 27, .mv (.tmp 11), (some ((some 23), true)), [4], [11]⟩,
 ⟨some 28, .bin .add (.tmp 26) (.tmp 27), (some ((some 23), true)), [7, 8, 4], [26, 27]⟩,
 ⟨some 29, .iaddr 1 (.tmp 25) (.tmp 28), (some ((some 23), true)), [6, 9, 4], [25, 28]⟩,
 ⟨some 30, .load false 1 (.tmp 29), (some ((some 23), true)), [10, 4], [29]⟩,
 ⟨some 31, .mv (.tmp 0), (some ((some 23), true)), [4], [0]⟩,
 ⟨some 32, .mv (.tmp 3), (some ((some 23), true)), [4], [3]⟩,
 ⟨some 33, .mv (.tmp 11), (some ((some 23), true)), [4], [11]⟩,
 ⟨some 34, .bin .add (.tmp 32) (.tmp 33), (some ((some 23), true)), [13, 14, 4], [32, 33]⟩,
 ⟨some 35, .bin .add (.tmp 34) (.cst (.int .i64 1)), (some ((some 23), true)), [15, 4], [34]⟩,
 ⟨some 36, .iaddr 1 (.tmp 31) (.tmp 35), (some ((some 23), true)), [12, 16, 4], [31, 35]⟩,
 ⟨some 37, .load false 1 (.tmp 36), (some ((some 23), true)), [17, 4], [36]⟩,
 ⟨some 38, .callv true (.tmp 24) [(.tmp 30), (.tmp 37)], (some ((some 23), true)), [5, 11, 18, 4, 4], [24, 30, 37]⟩,
 ⟨some 39, .bin .lss (.tmp 38) (.cst (.int .i64 0)), (some ((some 23), true)), [19, 4], [38]⟩,
 ⟨some 40, .pick (.tmp 23) (.tmp 39) (.cst (.bool false)), none, [4, 20], [23, 39]⟩])
  (.ghost (.kill [18, 19, 20, 21, 22, 23, 24, 25, 26, 27, 28, 29, 30, 31, 32, 33, 34, 35, 36, 37, 38, 39])))
  (.seq (.cond (.tmp 40) (.seq (.region false [
      ⟨some 41, .mv (.tmp 11), none, [], []⟩,
      ⟨some 42, .bin .add (.tmp 41) (.cst (.int .i64 1)), none, [], []⟩,
      ⟨some 11, .mv (.tmp 42), none, [], []⟩])
    (.ghost (.kill [40, 41, 42])))
  .skip)
  (.ghost (.kill [40]))))
  slices_siftDownCmpFunc_int.c1))))
def slices_siftDownCmpFunc_int.main : ACode := (.seq (.seq (.region false [
 ⟨some 12, .mv (.tmp 1), none, [], []⟩,
 ⟨some 10, .mv (.tmp 12), none, [], []⟩])
  (.ghost (.kill [1, 12])))
  (.seq (.block 0 (.loop slices_siftDownCmpFunc_int.b0))
  slices_siftDownCmpFunc_int.c0))
def slices_siftDownCmpFunc_int.k0 : List Item := [.inBlock 0, .code slices_siftDownCmpFunc_int.c0]
def slices_siftDownCmpFunc_int : AFunc := ⟨82, [], slices_siftDownCmpFunc_int.main⟩
/-- slices.nextPowerOfTwo -/
def slices_nextPowerOfTwo.main : ACode := (.seq (.seq (.region false [
 ⟨some 2, .mv (.cst (.int .u64 0)), none, [], []⟩])
  (.ghost (.kill [2])))
  (.seq (.region false [
 ⟨some 3, .mv (.tmp 0), none, [], []⟩,
 ⟨some 4, .conv .u64 (.tmp 3), none, [], []⟩,
 ⟨some 5, .call true i_bits_Len [(.tmp 4)], none, [], []⟩,
 ⟨some 6, .bin .shl (.cst (.int .u64 1)) (.tmp 5), none, [], []⟩,
 ⟨some 2, .mv (.tmp 6), none, [], []⟩])
  .ret))
def slices_nextPowerOfTwo : AFunc := ⟨7, [.tmp 2], slices_nextPowerOfTwo.main⟩
/-- (*slices.xorshift).Next -/
def slices_xorshift_Next.main : ACode := (.seq (.seq (.region false [
 ⟨some 2, .mv (.cst (.int .u64 0)), none, [], []⟩])
  (.ghost (.kill [2])))
  (.seq (.seq (.region true [
 ⟨some 3, .mv (.tmp 0), none, [], [0]⟩,
 ⟨some 4, .nilck (.tmp 3), none, [0], [3]⟩,
 ⟨some 5, .load false 1 (.tmp 4), none, [1], [4]⟩,
 ⟨some 6, .mv (.tmp 0), none, [], [0]⟩,
 ⟨some 7, .nilck (.tmp 6), none, [3], [6]⟩,
 ⟨some 8, .load false 1 (.tmp 7), none, [4], [7]⟩,
 ⟨some 9, .bin .shl (.tmp 8) (.cst (.int .u64 13)), none, [5], [8]⟩,
 ⟨some 10, .bin .xor (.tmp 5) (.tmp 9), none, [2, 6], [5, 9]⟩,
 ⟨some 11, .nilck (.tmp 3), none, [0, 0, 1, 2, 3, 4, 5, 6, 7], [3]⟩,
 ⟨none, .store 1 (.tmp 11) (.tmp 10), none, [8, 7, 0, 1, 2, 3, 4, 5, 6, 7], [11, 10]⟩])
  (.ghost (.kill [3, 4, 5, 6, 7, 8, 9, 10, 11])))
  (.seq (.seq (.region true [
 ⟨some 12, .mv (.tmp 0), none, [], [0]⟩,
 ⟨some 13, .nilck (.tmp 12), none, [0], [12]⟩,
 ⟨some 14, .load false 1 (.tmp 13), none, [1], [13]⟩,
 ⟨some 15, .mv (.tmp 0), none, [], [0]⟩,
 ⟨some 16, .nilck (.tmp 15), none, [3], [15]⟩,
 ⟨some 17, .load false 1 (.tmp 16), none, [4], [16]⟩,
 ⟨some 18, .bin .shr (.tmp 17) (.cst (.int .u64 7)), none, [5], [17]⟩,
 ⟨some 19, .bin .xor (.tmp 14) (.tmp 18), none, [2, 6], [14, 18]⟩,
 ⟨some 20, .nilck (.tmp 12), none, [0, 0, 1, 2, 3, 4, 5, 6, 7], [12]⟩,
 ⟨none, .store 1 (.tmp 20) (.tmp 19), none, [8, 7, 0, 1, 2, 3, 4, 5, 6, 7], [20, 19]⟩])
  (.ghost (.kill [12, 13, 14, 15, 16, 17, 18, 19, 20])))
  (.seq (.seq (.region true [
 ⟨some 21, .mv (.tmp 0), none, [], [0]⟩,
 ⟨some 22, .nilck (.tmp 21), none, [0], [21]⟩,
 ⟨some 23, .load false 1 (.tmp 22), none, [1], [22]⟩,
 ⟨some 24, .mv (.tmp 0), none, [], [0]⟩,
 ⟨some 25, .nilck (.tmp 24), none, [3], [24]⟩,
 ⟨some 26, .load false 1 (.tmp 25), none, [4], [25]⟩,
 ⟨some 27, .bin .shl (.tmp 26) (.cst (.int .u64 17)), none, [5], [26]⟩,
 ⟨some 28, .bin .xor (.tmp 23) (.tmp 27), none, [2, 6], [23, 27]⟩,
 ⟨some 29, .nilck (.tmp 21), none, [0, 0, 1, 2, 3, 4, 5, 6, 7], [21]⟩,
 ⟨none, .store 1 (.tmp 29) (.tmp 28), none, [8, 7, 0, 1, 2, 3, 4, 5, 6, 7], [29, 28]⟩])
  (.ghost (.kill [21, 22, 23, 24, 25, 26, 27, 28, 29])))
  (.seq (.region false [
 ⟨some 30, .mv (.tmp 0), none, [], []⟩,
 ⟨some 31, .nilck (.tmp 30), none, [], []⟩,
 ⟨some 32, .load false 1 (.tmp 31), none, [], []⟩,
 ⟨some 2, .mv (.tmp 32), none, [], []⟩])
  .ret)))))
def slices_xorshift_Next : AFunc := ⟨33, [.tmp 2], slices_xorshift_Next.main⟩
/-- slices.medianAdjacentCmpFunc[int] -/
def slices_medianAdjacentCmpFunc_int.main : ACode := (.seq (.seq (.region false [
 ⟨some 8, .mv (.cst (.int .i64 0)), none, [], []⟩])
  (.ghost (.kill [8])))
  (.seq (.region false [
 ⟨some 9, .mv (.tmp 0), none, [], []⟩,
 ⟨some 10, .mv (.tmp 1), none, [], []⟩,
 ⟨some 11, .bin .sub (.tmp 10) (.cst (.int .i64 1)), none, [], []⟩,
 ⟨some 12, .mv (.tmp 1), none, [], []⟩,
 ⟨some 13, .mv (.tmp 1), none, [], []⟩,
 ⟨some 14, .bin .add (.tmp 13) (.cst (.int .i64 1)), none, [], []⟩,
 ⟨some 15, .mv (.tmp 2), none, [], []⟩,
 ⟨some 16, .mv (.tmp 3), none, [], []⟩,
 ⟨some 17, .call false i_slices_medianCmpFunc_int [(.tmp 9), (.tmp 11), (.tmp 12), (.tmp 14), (.tmp 15), (.tmp 16)], none, [], []⟩,
 ⟨some 8, .mv (.tmp 17), none, [], []⟩])
  .ret))
def slices_medianAdjacentCmpFunc_int : AFunc := ⟨18, [.tmp 8], slices_medianAdjacentCmpFunc_int.main⟩
/-- slices.medianCmpFunc[int] -/
def slices_medianCmpFunc_int.main : ACode := (.seq (.seq (.region false [
 ⟨some 12, .mv (.cst (.int .i64 0)), none, [], []⟩])
  (.ghost (.kill [12])))
  (.seq (.seq (.region false [
 ⟨some 14, .mv (.tmp 0), none, [], []⟩,
 ⟨some 15, .mv (.tmp 1), none, [], []⟩,
 ⟨some 16, .mv (.tmp 2), none, [], []⟩,
 ⟨some 17, .mv (.tmp 4), none, [], []⟩,
 ⟨some 18, .mv (.tmp 5), none, [], []⟩,
 ⟨some 19, .call false i_slices_order2CmpFunc_int [(.tmp 14), (.tmp 15), (.tmp 16), (.tmp 17), (.tmp 18)], none, [], []⟩,
 ⟨some 13, .mv (.tmp 19), none, [], []⟩,
 ⟨some 20, .extr (.tmp 13) 0, none, [], []⟩,
 ⟨some 21, .extr (.tmp 13) 1, none, [], []⟩,
 ⟨some 1, .mv (.tmp 20), none, [], []⟩,
 ⟨some 2, .mv (.tmp 21), none, [], []⟩])
  (.ghost (.kill [13, 14, 15, 16, 17, 18, 19, 20, 21])))
  (.seq (.seq (.region false [
 ⟨some 23, .mv (.tmp 0), none, [], []⟩,
 ⟨some 24, .mv (.tmp 2), none, [], []⟩,
 ⟨some 25, .mv (.tmp 3), none, [], []⟩,
 ⟨some 26, .mv (.tmp 4), none, [], []⟩,
 ⟨some 27, .mv (.tmp 5), none, [], []⟩,
 ⟨some 28, .call false i_slices_order2CmpFunc_int [(.tmp 23), (.tmp 24), (.tmp 25), (.tmp 26), (.tmp 27)], none, [], []⟩,
 ⟨some 22, .mv (.tmp 28), none, [], []⟩,
 ⟨some 29, .extr (.tmp 22) 0, none, [], []⟩,
 ⟨some 30, .extr (.tmp 22) 1, none, [], []⟩,
 ⟨some 2, .mv (.tmp 29), none, [], []⟩,
 ⟨some 3, .mv (.tmp 30), none, [], []⟩])
  (.ghost (.kill [3, 22, 23, 24, 25, 26, 27, 28, 29, 30])))
  (.seq (.seq (.region false [
 ⟨some 32, .mv (.tmp 0), none, [], []⟩,
 ⟨some 33, .mv (.tmp 1), none, [], []⟩,
 ⟨some 34, .mv (.tmp 2), none, [], []⟩,
 ⟨some 35, .mv (.tmp 4), none, [], []⟩,
 ⟨some 36, .mv (.tmp 5), none, [], []⟩,
 ⟨some 37, .call false i_slices_order2CmpFunc_int [(.tmp 32), (.tmp 33), (.tmp 34), (.tmp 35), (.tmp 36)], none, [], []⟩,
 ⟨some 31, .mv (.tmp 37), none, [], []⟩,
 ⟨some 38, .extr (.tmp 31) 0, none, [], []⟩,
 ⟨some 39, .extr (.tmp 31) 1, none, [], []⟩,
 ⟨some 1, .mv (.tmp 38), none, [], []⟩,
 ⟨some 2, .mv (.tmp 39), none, [], []⟩])
  (.ghost (.kill [0, 1, 4, 5, 31, 32, 33, 34, 35, 36, 37, 38, 39])))
  (.seq (.region false [
 ⟨some 40, .mv (.tmp 2), none, [], []⟩,
 ⟨some 12, .mv (.tmp 40), none, [], []⟩])
  .ret)))))
def slices_medianCmpFunc_int : AFunc := ⟨41, [.tmp 12], slices_medianCmpFunc_int.main⟩
/-- slices.swapRangeCmpFunc[chapman/api.Commit] -/
def slices_swapRangeCmpFunc_Commit.c0 : ACode := (.ghost (.kill [0, 1, 2, 3, 10, 13]))
def slices_swapRangeCmpFunc_Commit.b0 : ACode := (.seq (.seq (.seq (.region false [
 ⟨some 11, .mv (.tmp 10), none, [], []⟩,
 ⟨some 12, .mv (.tmp 3), none, [], []⟩,
 ⟨some 13, .bin .lss (.tmp 11) (.tmp 12), none, [], []⟩])
  (.ghost (.kill [11, 12])))
  (.cond (.tmp 13) .skip
  (.exit 0)))
  (.seq (.block 1 (.seq (.region true [
 ⟨some 16, .mv (.tmp 0), none, [], [0]⟩,
 ⟨some 17, .mv (.tmp 1), none, [], [1]⟩,
 ⟨some 18, .mv (.tmp 10), none, [], [10]⟩,
 ⟨some 19, .bin .add (.tmp 17) (.tmp 18), none, [1, 2], [17, 18]⟩,
 ⟨some 20, .mv (.tmp 0), none, [], [0]⟩,
 ⟨some 21, .mv (.tmp 2), none, [], [2]⟩,
 ⟨some 22, .mv (.tmp 10), none, [], [10]⟩,
 ⟨some 23, .bin .add (.tmp 21) (.tmp 22), none, [5, 6], [21, 22]⟩,
 ⟨some 24, .mv (.tmp 0), none, [], [0]⟩,
 ⟨some 25, .mv (.tmp 2), none, [], [2]⟩,
 ⟨some 26, .mv (.tmp 10), none, [], [10]⟩,
 ⟨some 27, .bin .add (.tmp 25) (.tmp 26), none, [9, 10], [25, 26]⟩,
 ⟨some 28, .iaddr 5 (.tmp 24) (.tmp 27), none, [8, 11], [24, 27]⟩,
 ⟨some 29, .load true 5 (.tmp 28), none, [12], [28]⟩,
 ⟨some 30, .mv (.tmp 0), none, [], [0]⟩,
 ⟨some 31, .mv (.tmp 1), none, [], [1]⟩,
 ⟨some 32, .mv (.tmp 10), none, [], [10]⟩,
 ⟨some 33, .bin .add (.tmp 31) (.tmp 32), none, [15, 16], [31, 32]⟩,
 ⟨some 34, .iaddr 5 (.tmp 30) (.tmp 33), none, [14, 17], [30, 33]⟩,
 ⟨some 35, .load true 5 (.tmp 34), none, [18], [34]⟩,
 ⟨some 36, .iaddr 5 (.tmp 16) (.tmp 19), none, [0, 3, 0, 1, 2, 3, 8, 9, 10, 11, 12, 13, 19], [16, 19]⟩,
 ⟨none, .store 5 (.tmp 36) (.tmp 29), none, [20, 13, 0, 1, 2, 3, 8, 9, 10, 11, 12, 13, 19], [36, 29]⟩,
 ⟨some 37, .iaddr 5 (.tmp 20) (.tmp 23), none, [4, 7, 0, 1, 2, 3, 4, 5, 6, 7, 8, 9, 10, 11, 12, 13, 14, 15, 16, 17, 18, 19, 20, 21], [20, 23]⟩,
 ⟨none, .store 5 (.tmp 37) (.tmp 35), none, [22, 19, 21, 0, 1, 2, 3, 4, 5, 6, 7, 8, 9, 10, 11, 12, 13, 14, 15, 16, 17, 18, 19, 20, 21], [37, 35]⟩])
  (.ghost (.kill [13, 16, 17, 18, 19, 20, 21, 22, 23, 24, 25, 26, 27, 28, 29, 30, 31, 32, 33, 34, 35, 36, 37]))))
  (.seq (.region false [
 ⟨some 14, .mv (.tmp 10), none, [], []⟩,
 ⟨some 15, .bin .add (.tmp 14) (.cst (.int .i64 1)), none, [], []⟩,
 ⟨some 10, .mv (.tmp 15), none, [], []⟩])
  (.ghost (.kill [14, 15])))))
def slices_swapRangeCmpFunc_Commit.main : ACode := (.seq (.seq (.region false [
 ⟨some 10, .mv (.cst (.int .i64 0)), none, [], []⟩])
  (.ghost (.kill [4])))
  (.seq (.block 0 (.loop slices_swapRangeCmpFunc_Commit.b0))
  slices_swapRangeCmpFunc_Commit.c0))
def slices_swapRangeCmpFunc_Commit.k0 : List Item := [.inBlock 0, .code slices_swapRangeCmpFunc_Commit.c0]
def slices_swapRangeCmpFunc_Commit : AFunc := ⟨38, [], slices_swapRangeCmpFunc_Commit.main⟩
/-- slices.order2CmpFunc[int] -/
def slices_order2CmpFunc_int.main : ACode := (.seq (.seq (.region false [
 ⟨some 10, .mv (.cst (.int .i64 0)), none, [], []⟩,
 ⟨some 11, .mv (.cst (.int .i64 0)), none, [], []⟩])
  (.ghost (.kill [10, 11])))
  (.seq (.seq (.seq (.region true [
 ⟨some 12, .mv (.tmp 4), none, [], [4]⟩,
 ⟨some 13, .mv (.tmp 0), none, [], [0]⟩,
 ⟨some 14, .mv (.tmp 2), none, [], [2]⟩,
 ⟨some 15, .iaddr 1 (.tmp 13) (.tmp 14), none, [1, 2], [13, 14]⟩,
 ⟨some 16, .load false 1 (.tmp 15), none, [3], [15]⟩,
 ⟨some 17, .mv (.tmp 0), none, [], [0]⟩,
 ⟨some 18, .mv (.tmp 1), none, [], [1]⟩,
 ⟨some 19, .iaddr 1 (.tmp 17) (.tmp 18), none, [5, 6], [17, 18]⟩,
 ⟨some 20, .load false 1 (.tmp 19), none, [7], [19]⟩,
 ⟨some 21, .callv true (.tmp 12) [(.tmp 16), (.tmp 20)], none, [0, 4, 8], [12, 16, 20]⟩,
 ⟨some 22, .bin .lss (.tmp 21) (.cst (.int .i64 0)), none, [9], [21]⟩])
  (.ghost (.kill [0, 4, 12, 13, 14, 15, 16, 17, 18, 19, 20, 21])))
  (.cond (.tmp 22) (.seq (.seq (.region false [
      ⟨some 23, .mv (.tmp 3), none, [], []⟩,
      ⟨some 24, .nilck (.tmp 23), none, [], []⟩,
      ⟨some 25, .load false 1 (.tmp 24), none, [], []⟩,
      ⟨some 26, .bin .add (.tmp 25) (.cst (.int .i64 1)), none, [], []⟩,
      ⟨some 27, .nilck (.tmp 23), none, [], []⟩,
      ⟨none, .store 1 (.tmp 27) (.tmp 26), none, [], []⟩])
    (.ghost (.kill [3, 22, 23, 24, 25, 26, 27])))
    (.seq (.region false [
      ⟨some 28, .mv (.tmp 2), none, [], []⟩,
      ⟨some 29, .mv (.tmp 1), none, [], []⟩,
      ⟨some 10, .mv (.tmp 28), none, [], []⟩,
      ⟨some 11, .mv (.tmp 29), none, [], []⟩])
    .ret))
  .skip))
  (.seq (.region false [
 ⟨some 30, .mv (.tmp 1), none, [], []⟩,
 ⟨some 31, .mv (.tmp 2), none, [], []⟩,
 ⟨some 10, .mv (.tmp 30), none, [], []⟩,
 ⟨some 11, .mv (.tmp 31), none, [], []⟩])
  .ret)))
def slices_order2CmpFunc_int : AFunc := ⟨32, [.tmp 10, .tmp 11], slices_order2CmpFunc_int.main⟩
/-- gosem.cut.vars -/
def gosem_cut_vars.main : ACode := (.seq (.seq (.region false [
 ⟨some 0, .mkmap, none, [], []⟩,
 ⟨none, .store 1 (.cst (.fptr [(.fmap [.int .i64 5, .int .i64 6] [.clo (.func i_escrow_stock_take) [] [], .clo (.func i_escrow_stock_grant) [] []])])) (.tmp 0), none, [], []⟩])
  (.ghost (.kill [0])))
  (.seq (.seq (.region false [
 ⟨some 1, .load false 1 (.cst (.fptr [(.fmap [.int .i64 5, .int .i64 6] [.clo (.func i_escrow_stock_take) [] [], .clo (.func i_escrow_stock_grant) [] []])])), none, [], []⟩,
 ⟨none, .mapup (.int .i64) (.tmp 1) (.cst (.int .i64 5)) (.cst (.clo (.func i_escrow_stock_take) [] [])), none, [], []⟩])
  (.ghost (.kill [1])))
  (.seq (.region false [
 ⟨some 2, .load false 1 (.cst (.fptr [(.fmap [.int .i64 5, .int .i64 6] [.clo (.func i_escrow_stock_take) [] [], .clo (.func i_escrow_stock_grant) [] []])])), none, [], []⟩,
 ⟨none, .mapup (.int .i64) (.tmp 2) (.cst (.int .i64 6)) (.cst (.clo (.func i_escrow_stock_grant) [] [])), none, [], []⟩])
  (.ghost (.kill [2])))))
def gosem_cut_vars : AFunc := ⟨3, [], gosem_cut_vars.main⟩
def T : FuncId → Option AFunc
  | 3 => some l23_EscrowMatchesReference
  | 4 => some l23_EscrowConserves
  | 5 => some l23_EscrowIndependence
  | 6 => some l23_EscrowMonotone
  | 7 => some l23_EscrowAtomic
  | 8 => some l23_EscrowPromises
  | 9 => some l23_examples
  | 10 => some l23_short
  | 11 => some r23_With
  | 12 => some r20_Headers
  | 13 => some r23_Shares
  | 14 => some r23_Alike
  | 15 => some l23_created
  | 16 => some r23_NewIn
  | 17 => some escrow_Valid
  | 18 => some r23_Valid
  | 19 => some escrow_Total
  | 20 => some r23_Total
  | 21 => some l23_taken
  | 22 => some r23_TakeIn
  | 23 => some l23_granted
  | 24 => some r23_GrantIn
  | 25 => some r23_Same
  | 26 => some l23_played
  | 27 => some r23_PlayIn
  | 28 => some l23_did
  | 29 => some r23_DoIn
  | 30 => some escrow_Covered
  | 31 => some r23_Covered
  | 32 => some l23_commit
  | 33 => some r20_Same
  | 34 => some l23_kept
  | 35 => some r20_CutOf
  | 36 => some cut_Order
  | 37 => some cut_Has
  | 38 => some l23_causal
  | 39 => some l23_all
  | 40 => some r20_Zero
  | 41 => some l23_take
  | 42 => some r23_Op
  | 43 => some r20_JoinIn
  | 44 => some r20_Own
  | 45 => some escrow_New
  | 46 => some r23_station
  | 47 => some escrow_Take
  | 48 => some r23_MoveIn
  | 49 => some escrow_Grant
  | 50 => some escrow_Play
  | 51 => some escrow_Do
  | 52 => some slices_DeleteFunc_Commit
  | 53 => some slices_Clone_Commit
  | 54 => some escrow_Covered_1
  | 55 => some cut_Sees
  | 56 => some slices_SortStableFunc_Commit
  | 57 => some escrow_Covered_2
  | 58 => some cut_Before
  | 59 => some r23_Seen
  | 60 => some r20_GreatestIn
  | 61 => some r20_All
  | 62 => some r20_Limit
  | 63 => some cut_Closed
  | 64 => some cut_indices
  | 65 => some slices_SortFunc_int
  | 66 => some cut_Order_1
  | 67 => some cut_compare
  | 68 => some cut_Valid
  | 69 => some r20_Sees
  | 70 => some r20_Valid
  | 71 => some escrow_station
  | 72 => some escrow_try
  | 73 => some escrow_Take_1
  | 74 => some escrow_stock_take
  | 75 => some escrow_Grant_1
  | 76 => some escrow_stock_grant
  | 77 => some slices_Clone_int
  | 78 => some escrow_Do_1
  | 79 => some slices_IndexFunc_Commit
  | 80 => some cut_WellFormed
  | 81 => some slices_stableCmpFunc_Commit
  | 82 => some r20_Before
  | 83 => some r20_Closed
  | 84 => some r20_fits
  | 85 => some cut_reach
  | 86 => some slices_Equal_int
  | 87 => some slices_pdqsortCmpFunc_int
  | 88 => some bits_Len
  | 89 => some cmp_Or_int
  | 90 => some cmp_Compare_int
  | 91 => some cut_weight
  | 92 => some slices_ContainsFunc_int
  | 93 => some cut_Valid_1
  | 94 => some r20_WellFormed
  | 95 => some slices_insertionSortCmpFunc_Commit
  | 96 => some slices_symMergeCmpFunc_Commit
  | 97 => some r20_Weight
  | 98 => some r20_Find
  | 99 => some r20_Leq
  | 100 => some cut_Leq
  | 101 => some slices_insertionSortCmpFunc_int
  | 102 => some slices_heapSortCmpFunc_int
  | 103 => some slices_breakPatternsCmpFunc_int
  | 104 => some slices_choosePivotCmpFunc_int
  | 105 => some slices_reverseRangeCmpFunc_int
  | 106 => some slices_partialInsertionSortCmpFunc_int
  | 107 => some slices_partitionEqualCmpFunc_int
  | 108 => some slices_partitionCmpFunc_int
  | 109 => some bits_Len32
  | 110 => some bits_Len64
  | 111 => some cmp_isNaN_int
  | 112 => some slices_IndexFunc_int
  | 113 => some slices_rotateCmpFunc_Commit
  | 114 => some slices_siftDownCmpFunc_int
  | 115 => some slices_nextPowerOfTwo
  | 116 => some slices_xorshift_Next
  | 117 => some slices_medianAdjacentCmpFunc_int
  | 118 => some slices_medianCmpFunc_int
  | 119 => some slices_swapRangeCmpFunc_Commit
  | 120 => some slices_order2CmpFunc_int
  | 140 => some gosem_cut_vars
  | _ => none
theorem T_l23_EscrowMatchesReference : T i_l23_EscrowMatchesReference = some l23_EscrowMatchesReference := rfl
theorem T_l23_EscrowConserves : T i_l23_EscrowConserves = some l23_EscrowConserves := rfl
theorem T_l23_EscrowIndependence : T i_l23_EscrowIndependence = some l23_EscrowIndependence := rfl
theorem T_l23_EscrowMonotone : T i_l23_EscrowMonotone = some l23_EscrowMonotone := rfl
theorem T_l23_EscrowAtomic : T i_l23_EscrowAtomic = some l23_EscrowAtomic := rfl
theorem T_l23_EscrowPromises : T i_l23_EscrowPromises = some l23_EscrowPromises := rfl
theorem T_l23_examples : T i_l23_examples = some l23_examples := rfl
theorem T_l23_short : T i_l23_short = some l23_short := rfl
theorem T_r23_With : T i_r23_With = some r23_With := rfl
theorem T_r20_Headers : T i_r20_Headers = some r20_Headers := rfl
theorem T_r23_Shares : T i_r23_Shares = some r23_Shares := rfl
theorem T_r23_Alike : T i_r23_Alike = some r23_Alike := rfl
theorem T_l23_created : T i_l23_created = some l23_created := rfl
theorem T_r23_NewIn : T i_r23_NewIn = some r23_NewIn := rfl
theorem T_escrow_Valid : T i_escrow_Valid = some escrow_Valid := rfl
theorem T_r23_Valid : T i_r23_Valid = some r23_Valid := rfl
theorem T_escrow_Total : T i_escrow_Total = some escrow_Total := rfl
theorem T_r23_Total : T i_r23_Total = some r23_Total := rfl
theorem T_l23_taken : T i_l23_taken = some l23_taken := rfl
theorem T_r23_TakeIn : T i_r23_TakeIn = some r23_TakeIn := rfl
theorem T_l23_granted : T i_l23_granted = some l23_granted := rfl
theorem T_r23_GrantIn : T i_r23_GrantIn = some r23_GrantIn := rfl
theorem T_r23_Same : T i_r23_Same = some r23_Same := rfl
theorem T_l23_played : T i_l23_played = some l23_played := rfl
theorem T_r23_PlayIn : T i_r23_PlayIn = some r23_PlayIn := rfl
theorem T_l23_did : T i_l23_did = some l23_did := rfl
theorem T_r23_DoIn : T i_r23_DoIn = some r23_DoIn := rfl
theorem T_escrow_Covered : T i_escrow_Covered = some escrow_Covered := rfl
theorem T_r23_Covered : T i_r23_Covered = some r23_Covered := rfl
theorem T_l23_commit : T i_l23_commit = some l23_commit := rfl
theorem T_r20_Same : T i_r20_Same = some r20_Same := rfl
theorem T_l23_kept : T i_l23_kept = some l23_kept := rfl
theorem T_r20_CutOf : T i_r20_CutOf = some r20_CutOf := rfl
theorem T_cut_Order : T i_cut_Order = some cut_Order := rfl
theorem T_cut_Has : T i_cut_Has = some cut_Has := rfl
theorem T_l23_causal : T i_l23_causal = some l23_causal := rfl
theorem T_l23_all : T i_l23_all = some l23_all := rfl
theorem T_r20_Zero : T i_r20_Zero = some r20_Zero := rfl
theorem T_l23_take : T i_l23_take = some l23_take := rfl
theorem T_r23_Op : T i_r23_Op = some r23_Op := rfl
theorem T_r20_JoinIn : T i_r20_JoinIn = some r20_JoinIn := rfl
theorem T_r20_Own : T i_r20_Own = some r20_Own := rfl
theorem T_escrow_New : T i_escrow_New = some escrow_New := rfl
theorem T_r23_station : T i_r23_station = some r23_station := rfl
theorem T_escrow_Take : T i_escrow_Take = some escrow_Take := rfl
theorem T_r23_MoveIn : T i_r23_MoveIn = some r23_MoveIn := rfl
theorem T_escrow_Grant : T i_escrow_Grant = some escrow_Grant := rfl
theorem T_escrow_Play : T i_escrow_Play = some escrow_Play := rfl
theorem T_escrow_Do : T i_escrow_Do = some escrow_Do := rfl
theorem T_slices_DeleteFunc_Commit : T i_slices_DeleteFunc_Commit = some slices_DeleteFunc_Commit := rfl
theorem T_slices_Clone_Commit : T i_slices_Clone_Commit = some slices_Clone_Commit := rfl
theorem T_escrow_Covered_1 : T i_escrow_Covered_1 = some escrow_Covered_1 := rfl
theorem T_cut_Sees : T i_cut_Sees = some cut_Sees := rfl
theorem T_slices_SortStableFunc_Commit : T i_slices_SortStableFunc_Commit = some slices_SortStableFunc_Commit := rfl
theorem T_escrow_Covered_2 : T i_escrow_Covered_2 = some escrow_Covered_2 := rfl
theorem T_cut_Before : T i_cut_Before = some cut_Before := rfl
theorem T_r23_Seen : T i_r23_Seen = some r23_Seen := rfl
theorem T_r20_GreatestIn : T i_r20_GreatestIn = some r20_GreatestIn := rfl
theorem T_r20_All : T i_r20_All = some r20_All := rfl
theorem T_r20_Limit : T i_r20_Limit = some r20_Limit := rfl
theorem T_cut_Closed : T i_cut_Closed = some cut_Closed := rfl
theorem T_cut_indices : T i_cut_indices = some cut_indices := rfl
theorem T_slices_SortFunc_int : T i_slices_SortFunc_int = some slices_SortFunc_int := rfl
theorem T_cut_Order_1 : T i_cut_Order_1 = some cut_Order_1 := rfl
theorem T_cut_compare : T i_cut_compare = some cut_compare := rfl
theorem T_cut_Valid : T i_cut_Valid = some cut_Valid := rfl
theorem T_r20_Sees : T i_r20_Sees = some r20_Sees := rfl
theorem T_r20_Valid : T i_r20_Valid = some r20_Valid := rfl
theorem T_escrow_station : T i_escrow_station = some escrow_station := rfl
theorem T_escrow_try : T i_escrow_try = some escrow_try := rfl
theorem T_escrow_Take_1 : T i_escrow_Take_1 = some escrow_Take_1 := rfl
theorem T_escrow_stock_take : T i_escrow_stock_take = some escrow_stock_take := rfl
theorem T_escrow_Grant_1 : T i_escrow_Grant_1 = some escrow_Grant_1 := rfl
theorem T_escrow_stock_grant : T i_escrow_stock_grant = some escrow_stock_grant := rfl
theorem T_slices_Clone_int : T i_slices_Clone_int = some slices_Clone_int := rfl
theorem T_escrow_Do_1 : T i_escrow_Do_1 = some escrow_Do_1 := rfl
theorem T_slices_IndexFunc_Commit : T i_slices_IndexFunc_Commit = some slices_IndexFunc_Commit := rfl
theorem T_cut_WellFormed : T i_cut_WellFormed = some cut_WellFormed := rfl
theorem T_slices_stableCmpFunc_Commit : T i_slices_stableCmpFunc_Commit = some slices_stableCmpFunc_Commit := rfl
theorem T_r20_Before : T i_r20_Before = some r20_Before := rfl
theorem T_r20_Closed : T i_r20_Closed = some r20_Closed := rfl
theorem T_r20_fits : T i_r20_fits = some r20_fits := rfl
theorem T_cut_reach : T i_cut_reach = some cut_reach := rfl
theorem T_slices_Equal_int : T i_slices_Equal_int = some slices_Equal_int := rfl
theorem T_slices_pdqsortCmpFunc_int : T i_slices_pdqsortCmpFunc_int = some slices_pdqsortCmpFunc_int := rfl
theorem T_bits_Len : T i_bits_Len = some bits_Len := rfl
theorem T_cmp_Or_int : T i_cmp_Or_int = some cmp_Or_int := rfl
theorem T_cmp_Compare_int : T i_cmp_Compare_int = some cmp_Compare_int := rfl
theorem T_cut_weight : T i_cut_weight = some cut_weight := rfl
theorem T_slices_ContainsFunc_int : T i_slices_ContainsFunc_int = some slices_ContainsFunc_int := rfl
theorem T_cut_Valid_1 : T i_cut_Valid_1 = some cut_Valid_1 := rfl
theorem T_r20_WellFormed : T i_r20_WellFormed = some r20_WellFormed := rfl
theorem T_slices_insertionSortCmpFunc_Commit : T i_slices_insertionSortCmpFunc_Commit = some slices_insertionSortCmpFunc_Commit := rfl
theorem T_slices_symMergeCmpFunc_Commit : T i_slices_symMergeCmpFunc_Commit = some slices_symMergeCmpFunc_Commit := rfl
theorem T_r20_Weight : T i_r20_Weight = some r20_Weight := rfl
theorem T_r20_Find : T i_r20_Find = some r20_Find := rfl
theorem T_r20_Leq : T i_r20_Leq = some r20_Leq := rfl
theorem T_cut_Leq : T i_cut_Leq = some cut_Leq := rfl
theorem T_slices_insertionSortCmpFunc_int : T i_slices_insertionSortCmpFunc_int = some slices_insertionSortCmpFunc_int := rfl
theorem T_slices_heapSortCmpFunc_int : T i_slices_heapSortCmpFunc_int = some slices_heapSortCmpFunc_int := rfl
theorem T_slices_breakPatternsCmpFunc_int : T i_slices_breakPatternsCmpFunc_int = some slices_breakPatternsCmpFunc_int := rfl
theorem T_slices_choosePivotCmpFunc_int : T i_slices_choosePivotCmpFunc_int = some slices_choosePivotCmpFunc_int := rfl
theorem T_slices_reverseRangeCmpFunc_int : T i_slices_reverseRangeCmpFunc_int = some slices_reverseRangeCmpFunc_int := rfl
theorem T_slices_partialInsertionSortCmpFunc_int : T i_slices_partialInsertionSortCmpFunc_int = some slices_partialInsertionSortCmpFunc_int := rfl
theorem T_slices_partitionEqualCmpFunc_int : T i_slices_partitionEqualCmpFunc_int = some slices_partitionEqualCmpFunc_int := rfl
theorem T_slices_partitionCmpFunc_int : T i_slices_partitionCmpFunc_int = some slices_partitionCmpFunc_int := rfl
theorem T_bits_Len32 : T i_bits_Len32 = some bits_Len32 := rfl
theorem T_bits_Len64 : T i_bits_Len64 = some bits_Len64 := rfl
theorem T_cmp_isNaN_int : T i_cmp_isNaN_int = some cmp_isNaN_int := rfl
theorem T_slices_IndexFunc_int : T i_slices_IndexFunc_int = some slices_IndexFunc_int := rfl
theorem T_slices_rotateCmpFunc_Commit : T i_slices_rotateCmpFunc_Commit = some slices_rotateCmpFunc_Commit := rfl
theorem T_slices_siftDownCmpFunc_int : T i_slices_siftDownCmpFunc_int = some slices_siftDownCmpFunc_int := rfl
theorem T_slices_nextPowerOfTwo : T i_slices_nextPowerOfTwo = some slices_nextPowerOfTwo := rfl
theorem T_slices_xorshift_Next : T i_slices_xorshift_Next = some slices_xorshift_Next := rfl
theorem T_slices_medianAdjacentCmpFunc_int : T i_slices_medianAdjacentCmpFunc_int = some slices_medianAdjacentCmpFunc_int := rfl
theorem T_slices_medianCmpFunc_int : T i_slices_medianCmpFunc_int = some slices_medianCmpFunc_int := rfl
theorem T_slices_swapRangeCmpFunc_Commit : T i_slices_swapRangeCmpFunc_Commit = some slices_swapRangeCmpFunc_Commit := rfl
theorem T_slices_order2CmpFunc_int : T i_slices_order2CmpFunc_int = some slices_order2CmpFunc_int := rfl
theorem T_gosem_cut_vars : T i_gosem_cut_vars = some gosem_cut_vars := rfl
end Go.Abs
