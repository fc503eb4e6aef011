/- The functions of the program as terms of the abstract machine, printed by wip/gen/gen.py, with marks. -/
import Derived.Test.YtaiibojjndeipaaC20FP0
import Derived.Test.YtaiibojjndeipaaJAbsCore
set_option linter.all false
namespace Go.Abs
open Go
/-- chapman/chapmanlaw20.order -/
def l20_order.main : ACode := (.seq (.region false [
 ⟨some 4, .alloc [.nils, (.int .i64 0)], none, [], []⟩])
  (.seq (.seq (.region false [
 ⟨some 8, .mv (.tmp 0), none, [], []⟩,
 ⟨some 9, .mv (.tmp 1), none, [], []⟩,
 ⟨some 10, .call true i_cut_Order [(.tmp 8), (.tmp 9)], none, [], []⟩,
 ⟨some 7, .mv (.tmp 10), none, [], []⟩,
 ⟨some 11, .extr (.tmp 7) 0, none, [], []⟩,
 ⟨some 12, .extr (.tmp 7) 1, none, [], []⟩,
 ⟨some 5, .mv (.tmp 11), none, [], []⟩,
 ⟨some 6, .mv (.tmp 12), none, [], []⟩])
  (.ghost (.kill [0, 1, 7, 8, 9, 10, 11, 12])))
  (.seq (.region false [
 ⟨some 13, .mv (.tmp 5), none, [], []⟩,
 ⟨some 14, .mv (.tmp 6), none, [], []⟩,
 ⟨some 15, .build [.nils, (.int .i64 0)] [(0, 1, (.tmp 13)), (1, 1, (.tmp 14))], none, [], []⟩,
 ⟨none, .store 2 (.tmp 4) (.tmp 15), none, [], []⟩])
  .ret)))
def l20_order : AFunc := ⟨16, [.cell 4 true 2], l20_order.main⟩
/-- chapman/chapmanref20.OrderIn -/
def r20_OrderIn.c0 : ACode := (.seq (.region false [
 ⟨some 67, .mv (.tmp 5), none, [], []⟩,
 ⟨some 68, .build [.nils, (.int .i64 0)] [(0, 1, (.tmp 67))], none, [], []⟩,
 ⟨none, .store 2 (.tmp 4) (.tmp 68), none, [], []⟩])
  .ret)
def r20_OrderIn.c1 : ACode := (.ghost (.kill [0, 1, 6, 19]))
def r20_OrderIn.c2 : ACode := (.seq (.region false [
 ⟨some 20, .mv (.tmp 6), none, [], []⟩,
 ⟨some 21, .bin .add (.tmp 20) (.cst (.int .i64 1)), none, [], []⟩,
 ⟨some 6, .mv (.tmp 21), none, [], []⟩])
  (.ghost (.kill [20, 21])))
def r20_OrderIn.c3 : ACode := (.seq (.region false [
 ⟨some 28, .mv (.tmp 7), none, [], []⟩,
 ⟨some 29, .bin .add (.tmp 28) (.cst (.int .i64 1)), none, [], []⟩,
 ⟨some 7, .mv (.tmp 29), none, [], []⟩])
  (.ghost (.kill [28, 29])))
def r20_OrderIn.c4 : ACode := (.seq (.regionD ⟨[55, 59, 62], [], [([55], [60, 61, 63, 64]), ([59], [63, 64])]⟩ [
 ⟨some 55, .bslice 1 0 [(.int .i64 0)] [], none, [], []⟩,
 ⟨some 56, .mv (.tmp 5), none, [], [5]⟩,
 ⟨some 57, .mv (.tmp 9), none, [], [9]⟩,
 ⟨some 58, .slice 1 (.tmp 56) none (some (.tmp 57)) none, none, [1, 2], [56, 57]⟩,
 ⟨some 59, .append 1 8 (.tmp 55) (.tmp 58), none, [0, 3], [55, 58]⟩,
 ⟨some 60, .mv (.tmp 8), none, [], [8]⟩,
 ⟨some 61, .bslice 1 1 [(.int .i64 0)] [(0, (.tmp 60))], none, [5], [60]⟩,
 ⟨some 62, .append 1 8 (.tmp 59) (.tmp 61), none, [4, 6, 4], [59, 61]⟩,
 ⟨some 63, .mv (.tmp 5), none, [], [5]⟩,
 ⟨some 64, .mv (.tmp 9), none, [], [9]⟩,
 ⟨some 65, .slice 1 (.tmp 63) (some (.tmp 64)) none none, none, [8, 9], [63, 64]⟩,
 ⟨some 66, .append 1 8 (.tmp 62) (.tmp 65), none, [7, 10, 7], [62, 65]⟩,
 ⟨some 5, .mv (.tmp 66), none, [11, 11, 0, 1, 2, 3, 4, 5, 6, 7, 8, 9, 10, 11], [66]⟩])
  (.ghost (.kill [8, 9, 55, 56, 57, 58, 59, 60, 61, 62, 63, 64, 65, 66])))
def r20_OrderIn.b2 : ACode := (.seq (.seq (.seq (.region true [
 ⟨some 35, .mv (.tmp 9), none, [], [9]⟩,
 ⟨some 36, .mv (.tmp 5), none, [], [5]⟩,
 ⟨some 37, .len .sl (.tmp 36), none, [1], [36]⟩,
 ⟨some 38, .bin .lss (.tmp 35) (.tmp 37), none, [0, 2], [35, 37]⟩,
 ⟨some 39, .mv (.tmp 38), none, [3], [38]⟩,
 ⟨some 40, .mv (.tmp 0), (some ((some 39), true)), [4], [0]⟩,
 ⟨some 41, .mv (.tmp 5), (some ((some 39), true)), [4], [5]⟩,
 ⟨some 42, .mv (.tmp 9), (some ((some 39), true)), [4], [9]⟩,
 ⟨some 43, .iaddr 1 (.tmp 41) (.tmp 42), (some ((some 39), true)), [6, 7, 4], [41, 42]⟩,
 ⟨some 44, .load false 1 (.tmp 43), (some ((some 39), true)), [8, 4], [43]⟩,
 ⟨some 45, .iaddr 5 (.tmp 40) (.tmp 44), (some ((some 39), true)), [5, 9, 4], [40, 44]⟩,
 ⟨some 46, .load true 5 (.tmp 45), (some ((some 39), true)), [10, 4], [45]⟩,
 ⟨some 47, .mv (.tmp 0), (some ((some 39), true)), [4], [0]⟩,
 ⟨some 48, .mv (.tmp 8), (some ((some 39), true)), [4], [8]⟩,
 ⟨some 49, .iaddr 5 (.tmp 47) (.tmp 48), (some ((some 39), true)), [12, 13, 4], [47, 48]⟩,
 ⟨some 50, .load true 5 (.tmp 49), (some ((some 39), true)), [14, 4], [49]⟩,
 ⟨some 51, .call true i_r20_Before [(.tmp 46), (.tmp 50)], (some ((some 39), true)), [11, 15, 4, 4], [46, 50]⟩,
 ⟨some 52, .pick (.tmp 39) (.tmp 51) (.cst (.bool false)), none, [4, 16], [39, 51]⟩])
  (.ghost (.kill [35, 36, 37, 38, 39, 40, 41, 42, 43, 44, 45, 46, 47, 48, 49, 50, 51])))
  (.cond (.tmp 52) .skip
  (.exit 4)))
  (.block 5 (.seq (.region false [
 ⟨some 53, .mv (.tmp 9), none, [], []⟩,
 ⟨some 54, .bin .add (.tmp 53) (.cst (.int .i64 1)), none, [], []⟩,
 ⟨some 9, .mv (.tmp 54), none, [], []⟩])
  (.ghost (.kill [52, 53, 54])))))
def r20_OrderIn.b1 : ACode := (.seq (.seq (.seq (.region false [
 ⟨some 22, .mv (.tmp 7), none, [], []⟩,
 ⟨some 23, .mv (.tmp 1), none, [], []⟩,
 ⟨some 24, .mv (.tmp 6), none, [], []⟩,
 ⟨some 25, .iaddr 1 (.tmp 23) (.tmp 24), none, [], []⟩,
 ⟨some 26, .load false 1 (.tmp 25), none, [], []⟩,
 ⟨some 27, .bin .leq (.tmp 22) (.tmp 26), none, [], []⟩])
  (.ghost (.kill [22, 23, 24, 25, 26])))
  (.cond (.tmp 27) .skip
  (.exit 2)))
  (.seq (.block 3 (.seq (.seq (.region false [
 ⟨some 30, .mv (.tmp 0), none, [], []⟩,
 ⟨some 31, .mv (.tmp 6), none, [], []⟩,
 ⟨some 32, .mv (.tmp 7), none, [], []⟩,
 ⟨some 33, .build [(.int .i64 0), (.int .i64 0)] [(0, 1, (.tmp 31)), (1, 1, (.tmp 32))], none, [], []⟩,
 ⟨some 34, .call true i_r20_Find [(.tmp 30), (.tmp 33)], none, [], []⟩,
 ⟨some 8, .mv (.tmp 34), none, [], []⟩])
  (.ghost (.kill [27, 30, 31, 32, 33, 34])))
  (.seq (.region false [
 ⟨some 9, .mv (.cst (.int .i64 0)), none, [], []⟩])
  (.seq (.seq (.block 4 (.loop r20_OrderIn.b2))
  (.ghost (.kill [52])))
  r20_OrderIn.c4))))
  r20_OrderIn.c3))
def r20_OrderIn.b0 : ACode := (.seq (.seq (.seq (.region false [
 ⟨some 16, .mv (.tmp 6), none, [], []⟩,
 ⟨some 17, .mv (.tmp 1), none, [], []⟩,
 ⟨some 18, .len .sl (.tmp 17), none, [], []⟩,
 ⟨some 19, .bin .lss (.tmp 16) (.tmp 18), none, [], []⟩])
  (.ghost (.kill [16, 17, 18])))
  (.cond (.tmp 19) .skip
  (.exit 0)))
  (.seq (.block 1 (.seq (.seq (.region false [
 ⟨some 7, .mv (.cst (.int .i64 1)), none, [], []⟩])
  (.ghost (.kill [19])))
  (.seq (.block 2 (.loop r20_OrderIn.b1))
  (.ghost (.kill [7, 27])))))
  r20_OrderIn.c2))
def r20_OrderIn.main : ACode := (.seq (.region false [
 ⟨some 4, .alloc [.nils, (.int .i64 0)], none, [], []⟩])
  (.seq (.seq (.seq (.region false [
 ⟨some 10, .mv (.tmp 0), none, [], []⟩,
 ⟨some 11, .mv (.tmp 1), none, [], []⟩,
 ⟨some 12, .call true i_r20_Closed [(.tmp 10), (.tmp 11)], none, [], []⟩,
 ⟨some 13, .un .not (.tmp 12), none, [], []⟩])
  (.ghost (.kill [10, 11, 12])))
  (.cond (.tmp 13) (.seq (.region false [
      ⟨some 14, .build [.nils, (.int .i64 0)] [(1, 1, (.cst (.int .i64 200)))], none, [], []⟩,
      ⟨none, .store 2 (.tmp 4) (.tmp 14), none, [], []⟩])
    .ret)
  .skip))
  (.seq (.seq (.region false [
 ⟨some 15, .bslice 1 0 [(.int .i64 0)] [], none, [], []⟩,
 ⟨some 5, .mv (.tmp 15), none, [], []⟩])
  (.ghost (.kill [13, 15])))
  (.seq (.seq (.region false [
 ⟨some 6, .mv (.cst (.int .i64 0)), none, [], []⟩])
  (.seq (.block 0 (.loop r20_OrderIn.b0))
  r20_OrderIn.c1))
  r20_OrderIn.c0))))
def r20_OrderIn.k2 : List Item := [.inBlock 4, .code (.ghost (.kill [52])), .code r20_OrderIn.c4, .inBlock 3, .code r20_OrderIn.c3, .inLoop r20_OrderIn.b1, .inBlock 2, .code (.ghost (.kill [7, 27])), .inBlock 1, .code r20_OrderIn.c2, .inLoop r20_OrderIn.b0, .inBlock 0, .code r20_OrderIn.c1, .code r20_OrderIn.c0]
def r20_OrderIn.k1 : List Item := [.inBlock 2, .code (.ghost (.kill [7, 27])), .inBlock 1, .code r20_OrderIn.c2, .inLoop r20_OrderIn.b0, .inBlock 0, .code r20_OrderIn.c1, .code r20_OrderIn.c0]
def r20_OrderIn.k0 : List Item := [.inBlock 0, .code r20_OrderIn.c1, .code r20_OrderIn.c0]
def r20_OrderIn : AFunc := ⟨69, [.cell 4 true 2], r20_OrderIn.main⟩
/-- chapman/cut.Closed -/
def cut_Closed.main : ACode := (.seq (.seq (.region false [
 ⟨some 4, .mv (.cst (.bool false)), none, [], []⟩])
  (.ghost (.kill [4])))
  (.seq (.seq (.seq (.region false [
 ⟨some 6, .mv (.tmp 1), none, [], []⟩,
 ⟨some 7, .call true i_cut_Valid [(.tmp 6)], none, [], []⟩,
 ⟨some 8, .un .not (.tmp 7), none, [], []⟩])
  (.ghost (.kill [6, 7])))
  (.cond (.tmp 8) (.seq (.region false [
      ⟨some 4, .mv (.cst (.bool false)), none, [], []⟩])
    .ret)
  .skip))
  (.seq (.seq (.region false [
 ⟨some 9, .mv (.tmp 1), none, [], []⟩,
 ⟨some 10, .call false i_slices_Clone_int [(.tmp 9)], none, [], []⟩,
 ⟨some 5, .mv (.tmp 10), none, [], []⟩])
  (.ghost (.kill [8, 9, 10])))
  (.seq (.seq (.region false [
 ⟨some 11, .mv (.tmp 0), none, [], []⟩,
 ⟨some 12, .mv (.tmp 5), none, [], []⟩,
 ⟨some 13, .call false i_cut_reach [(.tmp 11), (.tmp 12)], none, [], []⟩])
  (.ghost (.kill [0, 11, 12, 13])))
  (.seq (.region false [
 ⟨some 14, .mv (.tmp 5), none, [], []⟩,
 ⟨some 15, .mv (.tmp 1), none, [], []⟩,
 ⟨some 16, .call true i_slices_Equal_int [(.tmp 14), (.tmp 15)], none, [], []⟩,
 ⟨some 4, .mv (.tmp 16), none, [], []⟩])
  .ret)))))
def cut_Closed : AFunc := ⟨17, [.tmp 4], cut_Closed.main⟩
/-- chapman/chapmanref20.Closed -/
def r20_Closed.c0 : ACode := (.seq (.region false [
 ⟨some 4, .mv (.cst (.bool true)), none, [], []⟩])
  .ret)
def r20_Closed.c1 : ACode := (.ghost (.kill [0, 1, 5, 12]))
def r20_Closed.b0 : ACode := (.seq (.seq (.seq (.region false [
 ⟨some 9, .mv (.tmp 5), none, [], []⟩,
 ⟨some 10, .mv (.tmp 1), none, [], []⟩,
 ⟨some 11, .len .sl (.tmp 10), none, [], []⟩,
 ⟨some 12, .bin .lss (.tmp 9) (.tmp 11), none, [], []⟩])
  (.ghost (.kill [9, 10, 11])))
  (.cond (.tmp 12) .skip
  (.exit 0)))
  (.seq (.seq (.block 1 (.seq (.seq (.region true [
 ⟨some 15, .mv (.tmp 0), none, [], [0]⟩,
 ⟨some 16, .mv (.tmp 1), none, [], [1]⟩,
 ⟨some 17, .mv (.tmp 5), none, [], [5]⟩,
 ⟨some 18, .call true i_r20_fits [(.tmp 15), (.tmp 16), (.tmp 17)], none, [0, 1, 2], [15, 16, 17]⟩,
 ⟨some 19, .mv (.tmp 1), none, [], [1]⟩,
 ⟨some 20, .mv (.tmp 5), none, [], [5]⟩,
 ⟨some 21, .iaddr 1 (.tmp 19) (.tmp 20), none, [4, 5], [19, 20]⟩,
 ⟨some 22, .load false 1 (.tmp 21), none, [6], [21]⟩,
 ⟨some 23, .bin .lss (.tmp 18) (.tmp 22), none, [3, 7], [18, 22]⟩])
  (.ghost (.kill [12, 15, 16, 17, 18, 19, 20, 21, 22])))
  (.cond (.tmp 23) (.seq (.region false [
      ⟨some 4, .mv (.cst (.bool false)), none, [], []⟩])
    .ret)
  .skip)))
  (.ghost (.kill [23])))
  (.seq (.region false [
 ⟨some 13, .mv (.tmp 5), none, [], []⟩,
 ⟨some 14, .bin .add (.tmp 13) (.cst (.int .i64 1)), none, [], []⟩,
 ⟨some 5, .mv (.tmp 14), none, [], []⟩])
  (.ghost (.kill [13, 14])))))
def r20_Closed.main : ACode := (.seq (.seq (.region false [
 ⟨some 4, .mv (.cst (.bool false)), none, [], []⟩])
  (.ghost (.kill [4])))
  (.seq (.seq (.seq (.region false [
 ⟨some 6, .mv (.tmp 1), none, [], []⟩,
 ⟨some 7, .call true i_r20_Valid [(.tmp 6)], none, [], []⟩,
 ⟨some 8, .un .not (.tmp 7), none, [], []⟩])
  (.ghost (.kill [6, 7])))
  (.cond (.tmp 8) (.seq (.region false [
      ⟨some 4, .mv (.cst (.bool false)), none, [], []⟩])
    .ret)
  .skip))
  (.seq (.seq (.seq (.region false [
 ⟨some 5, .mv (.cst (.int .i64 0)), none, [], []⟩])
  (.ghost (.kill [8])))
  (.seq (.block 0 (.loop r20_Closed.b0))
  r20_Closed.c1))
  r20_Closed.c0)))
def r20_Closed.k0 : List Item := [.inBlock 0, .code r20_Closed.c1, .code r20_Closed.c0]
def r20_Closed : AFunc := ⟨24, [.tmp 4], r20_Closed.main⟩
/-- chapman/chapmanlaw20.greatest -/
def l20_greatest.main : ACode := (.seq (.region false [
 ⟨some 4, .alloc [.nils, (.int .i64 0)], none, [], []⟩])
  (.seq (.seq (.region false [
 ⟨some 8, .mv (.tmp 0), none, [], []⟩,
 ⟨some 9, .mv (.tmp 1), none, [], []⟩,
 ⟨some 10, .call true i_cut_Greatest [(.tmp 8), (.tmp 9)], none, [], []⟩,
 ⟨some 7, .mv (.tmp 10), none, [], []⟩,
 ⟨some 11, .extr (.tmp 7) 0, none, [], []⟩,
 ⟨some 12, .extr (.tmp 7) 1, none, [], []⟩,
 ⟨some 5, .mv (.tmp 11), none, [], []⟩,
 ⟨some 6, .mv (.tmp 12), none, [], []⟩])
  (.ghost (.kill [0, 1, 7, 8, 9, 10, 11, 12])))
  (.seq (.region false [
 ⟨some 13, .mv (.tmp 5), none, [], []⟩,
 ⟨some 14, .mv (.tmp 6), none, [], []⟩,
 ⟨some 15, .build [.nils, (.int .i64 0)] [(0, 1, (.tmp 13)), (1, 1, (.tmp 14))], none, [], []⟩,
 ⟨none, .store 2 (.tmp 4) (.tmp 15), none, [], []⟩])
  .ret)))
def l20_greatest : AFunc := ⟨16, [.cell 4 true 2], l20_greatest.main⟩
/-- chapman/chapmanref20.GreatestIn -/
def r20_GreatestIn.c0 : ACode := (.seq (.region false [
 ⟨some 31, .mv (.tmp 5), none, [], []⟩,
 ⟨some 32, .build [.nils, (.int .i64 0)] [(0, 1, (.tmp 31))], none, [], []⟩,
 ⟨none, .store 2 (.tmp 4) (.tmp 32), none, [], []⟩])
  .ret)
def r20_GreatestIn.b1 : ACode := (.seq (.seq (.seq (.region false [
 ⟨some 18, .mv (.tmp 6), none, [], []⟩,
 ⟨some 19, .mv (.tmp 5), none, [], []⟩,
 ⟨some 20, .len .sl (.tmp 19), none, [], []⟩,
 ⟨some 21, .bin .lss (.tmp 18) (.tmp 20), none, [], []⟩])
  (.ghost (.kill [18, 19, 20])))
  (.cond (.tmp 21) .skip
  (.exit 2)))
  (.seq (.block 3 (.seq (.region false [
 ⟨some 24, .mv (.tmp 5), none, [], []⟩,
 ⟨some 25, .mv (.tmp 6), none, [], []⟩,
 ⟨some 26, .mv (.tmp 0), none, [], []⟩,
 ⟨some 27, .mv (.tmp 5), none, [], []⟩,
 ⟨some 28, .mv (.tmp 6), none, [], []⟩,
 ⟨some 29, .call true i_r20_fits [(.tmp 26), (.tmp 27), (.tmp 28)], none, [], []⟩,
 ⟨some 30, .iaddr 1 (.tmp 24) (.tmp 25), none, [], []⟩,
 ⟨none, .store 1 (.tmp 30) (.tmp 29), none, [], []⟩])
  (.ghost (.kill [21, 24, 25, 26, 27, 28, 29, 30]))))
  (.seq (.region false [
 ⟨some 22, .mv (.tmp 6), none, [], []⟩,
 ⟨some 23, .bin .add (.tmp 22) (.cst (.int .i64 1)), none, [], []⟩,
 ⟨some 6, .mv (.tmp 23), none, [], []⟩])
  (.ghost (.kill [22, 23])))))
def r20_GreatestIn.b0 : ACode := (.seq (.seq (.seq (.region false [
 ⟨some 14, .mv (.tmp 0), none, [], []⟩,
 ⟨some 15, .mv (.tmp 5), none, [], []⟩,
 ⟨some 16, .call true i_r20_Closed [(.tmp 14), (.tmp 15)], none, [], []⟩,
 ⟨some 17, .un .not (.tmp 16), none, [], []⟩])
  (.ghost (.kill [14, 15, 16])))
  (.cond (.tmp 17) .skip
  (.exit 0)))
  (.block 1 (.seq (.seq (.region false [
 ⟨some 6, .mv (.cst (.int .i64 0)), none, [], []⟩])
  (.ghost (.kill [17])))
  (.seq (.block 2 (.loop r20_GreatestIn.b1))
  (.ghost (.kill [6, 21]))))))
def r20_GreatestIn.main : ACode := (.seq (.region false [
 ⟨some 4, .alloc [.nils, (.int .i64 0)], none, [], []⟩])
  (.seq (.seq (.seq (.region false [
 ⟨some 7, .mv (.tmp 1), none, [], []⟩,
 ⟨some 8, .call true i_r20_Valid [(.tmp 7)], none, [], []⟩,
 ⟨some 9, .un .not (.tmp 8), none, [], []⟩])
  (.ghost (.kill [7, 8])))
  (.cond (.tmp 9) (.seq (.region false [
      ⟨some 10, .build [.nils, (.int .i64 0)] [(1, 1, (.cst (.int .i64 200)))], none, [], []⟩,
      ⟨none, .store 2 (.tmp 4) (.tmp 10), none, [], []⟩])
    .ret)
  .skip))
  (.seq (.seq (.region false [
 ⟨some 11, .bslice 1 0 [(.int .i64 0)] [], none, [], []⟩,
 ⟨some 12, .mv (.tmp 1), none, [], []⟩,
 ⟨some 13, .append 1 8 (.tmp 11) (.tmp 12), none, [], []⟩,
 ⟨some 5, .mv (.tmp 13), none, [], []⟩])
  (.ghost (.kill [1, 9, 11, 12, 13])))
  (.seq (.seq (.block 0 (.loop r20_GreatestIn.b0))
  (.ghost (.kill [0, 17])))
  r20_GreatestIn.c0))))
def r20_GreatestIn.k1 : List Item := [.inBlock 2, .code (.ghost (.kill [6, 21])), .inBlock 1, .inLoop r20_GreatestIn.b0, .inBlock 0, .code (.ghost (.kill [0, 17])), .code r20_GreatestIn.c0]
def r20_GreatestIn.k0 : List Item := [.inBlock 0, .code (.ghost (.kill [0, 17])), .code r20_GreatestIn.c0]
def r20_GreatestIn : AFunc := ⟨33, [.cell 4 true 2], r20_GreatestIn.main⟩
/-- chapman/chapmanref20.Same -/
def r20_Same.c0 : ACode := (.seq (.region false [
 ⟨some 4, .mv (.cst (.bool true)), none, [], []⟩])
  .ret)
def r20_Same.c1 : ACode := (.ghost (.kill [0, 1, 5, 14]))
def r20_Same.b0 : ACode := (.seq (.seq (.seq (.region false [
 ⟨some 11, .mv (.tmp 5), none, [], []⟩,
 ⟨some 12, .mv (.tmp 0), none, [], []⟩,
 ⟨some 13, .len .sl (.tmp 12), none, [], []⟩,
 ⟨some 14, .bin .lss (.tmp 11) (.tmp 13), none, [], []⟩])
  (.ghost (.kill [11, 12, 13])))
  (.cond (.tmp 14) .skip
  (.exit 0)))
  (.seq (.seq (.block 1 (.seq (.seq (.region true [
 ⟨some 17, .mv (.tmp 0), none, [], [0]⟩,
 ⟨some 18, .mv (.tmp 5), none, [], [5]⟩,
 ⟨some 19, .iaddr 1 (.tmp 17) (.tmp 18), none, [0, 1], [17, 18]⟩,
 ⟨some 20, .load false 1 (.tmp 19), none, [2], [19]⟩,
 ⟨some 21, .mv (.tmp 1), none, [], [1]⟩,
 ⟨some 22, .mv (.tmp 5), none, [], [5]⟩,
 ⟨some 23, .iaddr 1 (.tmp 21) (.tmp 22), none, [4, 5], [21, 22]⟩,
 ⟨some 24, .load false 1 (.tmp 23), none, [6], [23]⟩,
 ⟨some 25, .bin .neq (.tmp 20) (.tmp 24), none, [3, 7], [20, 24]⟩])
  (.ghost (.kill [14, 17, 18, 19, 20, 21, 22, 23, 24])))
  (.cond (.tmp 25) (.seq (.region false [
      ⟨some 4, .mv (.cst (.bool false)), none, [], []⟩])
    .ret)
  .skip)))
  (.ghost (.kill [25])))
  (.seq (.region false [
 ⟨some 15, .mv (.tmp 5), none, [], []⟩,
 ⟨some 16, .bin .add (.tmp 15) (.cst (.int .i64 1)), none, [], []⟩,
 ⟨some 5, .mv (.tmp 16), none, [], []⟩])
  (.ghost (.kill [15, 16])))))
def r20_Same.main : ACode := (.seq (.seq (.region false [
 ⟨some 4, .mv (.cst (.bool false)), none, [], []⟩])
  (.ghost (.kill [4])))
  (.seq (.seq (.seq (.region false [
 ⟨some 6, .mv (.tmp 0), none, [], []⟩,
 ⟨some 7, .len .sl (.tmp 6), none, [], []⟩,
 ⟨some 8, .mv (.tmp 1), none, [], []⟩,
 ⟨some 9, .len .sl (.tmp 8), none, [], []⟩,
 ⟨some 10, .bin .neq (.tmp 7) (.tmp 9), none, [], []⟩])
  (.ghost (.kill [6, 7, 8, 9])))
  (.cond (.tmp 10) (.seq (.region false [
      ⟨some 4, .mv (.cst (.bool false)), none, [], []⟩])
    .ret)
  .skip))
  (.seq (.seq (.seq (.region false [
 ⟨some 5, .mv (.cst (.int .i64 0)), none, [], []⟩])
  (.ghost (.kill [10])))
  (.seq (.block 0 (.loop r20_Same.b0))
  r20_Same.c1))
  r20_Same.c0)))
def r20_Same.k0 : List Item := [.inBlock 0, .code r20_Same.c1, .code r20_Same.c0]
def r20_Same : AFunc := ⟨26, [.tmp 4], r20_Same.main⟩
/-- chapman/cut.WellFormed -/
def cut_WellFormed.main : ACode := (.seq (.seq (.region false [
 ⟨some 1, .box 5 (.tmp 0), none, [], []⟩,
 ⟨some 2, .mv (.cst (.bool false)), none, [], []⟩])
  (.ghost (.kill [0, 2])))
  (.seq (.seq (.region false [
 ⟨some 4, .faddr 0 (.tmp 1), none, [], []⟩,
 ⟨some 5, .load true 2 (.tmp 4), none, [], []⟩,
 ⟨some 3, .alloc [(.int .i64 0), (.int .i64 0)], none, [], []⟩,
 ⟨none, .store 2 (.tmp 3) (.tmp 5), none, [], []⟩])
  (.ghost (.kill [4, 5])))
  (.seq (.region true [
 ⟨some 6, .faddr 0 (.tmp 3), none, [], [3]⟩,
 ⟨some 7, .load false 1 (.tmp 6), none, [0], [6]⟩,
 ⟨some 8, .bin .geq (.tmp 7) (.cst (.int .i64 0)), none, [1], [7]⟩,
 ⟨some 9, .mv (.tmp 8), none, [2], [8]⟩,
 ⟨some 10, .faddr 0 (.tmp 3), (some ((some 9), true)), [3], [3]⟩,
 ⟨some 11, .load false 1 (.tmp 10), (some ((some 9), true)), [4, 3], [10]⟩,
 ⟨some 12, .bin .lss (.tmp 11) (.cst (.int .i64 6)), (some ((some 9), true)), [5, 3], [11]⟩,
 ⟨some 13, .pick (.tmp 9) (.tmp 12) (.cst (.bool false)), none, [3, 6], [9, 12]⟩,
 ⟨some 14, .mv (.tmp 13), none, [7, 3], [13]⟩,
 ⟨some 15, .faddr 1 (.tmp 3), (some ((some 14), true)), [8], [3]⟩,
 ⟨some 16, .load false 1 (.tmp 15), (some ((some 14), true)), [9, 8], [15]⟩,
 ⟨some 17, .bin .geq (.tmp 16) (.cst (.int .i64 1)), (some ((some 14), true)), [10, 8], [16]⟩,
 ⟨some 18, .pick (.tmp 14) (.tmp 17) (.cst (.bool false)), none, [8, 11], [14, 17]⟩,
 ⟨some 19, .mv (.tmp 18), none, [12, 8], [18]⟩,
 ⟨some 20, .faddr 1 (.tmp 3), (some ((some 19), true)), [13], [3]⟩,
 ⟨some 21, .load false 1 (.tmp 20), (some ((some 19), true)), [14, 13], [20]⟩,
 ⟨some 22, .bin .leq (.tmp 21) (.cst (.int .i64 999)), (some ((some 19), true)), [15, 13], [21]⟩,
 ⟨some 23, .pick (.tmp 19) (.tmp 22) (.cst (.bool false)), none, [13, 16], [19, 22]⟩,
 ⟨some 24, .mv (.tmp 23), none, [17, 13], [23]⟩,
 ⟨some 25, .faddr 2 (.tmp 1), (some ((some 24), true)), [18], [1]⟩,
 ⟨some 26, .load false 1 (.tmp 25), (some ((some 24), true)), [19, 18], [25]⟩,
 ⟨some 27, .call true i_cut_Valid [(.tmp 26)], (some ((some 24), true)), [20, 18, 18], [26]⟩,
 ⟨some 28, .pick (.tmp 24) (.tmp 27) (.cst (.bool false)), none, [18, 21], [24, 27]⟩,
 ⟨some 29, .mv (.tmp 28), none, [22, 21], [28]⟩,
 ⟨some 30, .faddr 2 (.tmp 1), (some ((some 29), true)), [23], [1]⟩,
 ⟨some 31, .load false 1 (.tmp 30), (some ((some 29), true)), [24, 23], [30]⟩,
 ⟨some 32, .faddr 0 (.tmp 3), (some ((some 29), true)), [23], [3]⟩,
 ⟨some 33, .load false 1 (.tmp 32), (some ((some 29), true)), [26, 23], [32]⟩,
 ⟨some 34, .iaddr 1 (.tmp 31) (.tmp 33), (some ((some 29), true)), [25, 27, 23], [31, 33]⟩,
 ⟨some 35, .load false 1 (.tmp 34), (some ((some 29), true)), [28, 23], [34]⟩,
 ⟨some 36, .faddr 1 (.tmp 3), (some ((some 29), true)), [23], [3]⟩,
 ⟨some 37, .load false 1 (.tmp 36), (some ((some 29), true)), [30, 23], [36]⟩,
 ⟨some 38, .bin .sub (.tmp 37) (.cst (.int .i64 1)), (some ((some 29), true)), [31, 23], [37]⟩,
 ⟨some 39, .bin .eql (.tmp 35) (.tmp 38), (some ((some 29), true)), [29, 32, 23], [35, 38]⟩,
 ⟨some 40, .pick (.tmp 29) (.tmp 39) (.cst (.bool false)), none, [23, 33], [29, 39]⟩,
 ⟨some 2, .mv (.tmp 40), none, [34, 23, 0, 1, 2, 3, 4, 5, 6, 7, 8, 9, 10, 11, 12, 13, 14, 15, 16, 17, 18, 19, 20, 21, 22, 23, 24, 25, 26, 27, 28, 29, 30, 31, 32, 33, 34], [40]⟩])
  .ret)))
def cut_WellFormed : AFunc := ⟨41, [.tmp 2], cut_WellFormed.main⟩
/-- chapman/chapmanref20.WellFormed -/
def r20_WellFormed.main : ACode := (.seq (.seq (.region false [
 ⟨some 1, .box 5 (.tmp 0), none, [], []⟩,
 ⟨some 2, .mv (.cst (.bool false)), none, [], []⟩])
  (.ghost (.kill [0, 2])))
  (.seq (.seq (.region false [
 ⟨some 4, .faddr 0 (.tmp 1), none, [], []⟩,
 ⟨some 5, .load true 2 (.tmp 4), none, [], []⟩,
 ⟨some 3, .alloc [(.int .i64 0), (.int .i64 0)], none, [], []⟩,
 ⟨none, .store 2 (.tmp 3) (.tmp 5), none, [], []⟩])
  (.ghost (.kill [4, 5])))
  (.seq (.region true [
 ⟨some 6, .faddr 0 (.tmp 3), none, [], [3]⟩,
 ⟨some 7, .load false 1 (.tmp 6), none, [0], [6]⟩,
 ⟨some 8, .bin .geq (.tmp 7) (.cst (.int .i64 0)), none, [1], [7]⟩,
 ⟨some 9, .mv (.tmp 8), none, [2], [8]⟩,
 ⟨some 10, .faddr 0 (.tmp 3), (some ((some 9), true)), [3], [3]⟩,
 ⟨some 11, .load false 1 (.tmp 10), (some ((some 9), true)), [4, 3], [10]⟩,
 ⟨some 12, .bin .lss (.tmp 11) (.cst (.int .i64 6)), (some ((some 9), true)), [5, 3], [11]⟩,
 ⟨some 13, .pick (.tmp 9) (.tmp 12) (.cst (.bool false)), none, [3, 6], [9, 12]⟩,
 ⟨some 14, .mv (.tmp 13), none, [7, 3], [13]⟩,
 ⟨some 15, .faddr 1 (.tmp 3), (some ((some 14), true)), [8], [3]⟩,
 ⟨some 16, .load false 1 (.tmp 15), (some ((some 14), true)), [9, 8], [15]⟩,
 ⟨some 17, .bin .geq (.tmp 16) (.cst (.int .i64 1)), (some ((some 14), true)), [10, 8], [16]⟩,
 ⟨some 18, .pick (.tmp 14) (.tmp 17) (.cst (.bool false)), none, [8, 11], [14, 17]⟩,
 ⟨some 19, .mv (.tmp 18), none, [12, 8], [18]⟩,
 ⟨some 20, .faddr 1 (.tmp 3), (some ((some 19), true)), [13], [3]⟩,
 ⟨some 21, .load false 1 (.tmp 20), (some ((some 19), true)), [14, 13], [20]⟩,
 ⟨some 22, .bin .leq (.tmp 21) (.cst (.int .i64 999)), (some ((some 19), true)), [15, 13], [21]⟩,
 ⟨some 23, .pick (.tmp 19) (.tmp 22) (.cst (.bool false)), none, [13, 16], [19, 22]⟩,
 ⟨some 24, .mv (.tmp 23), none, [17, 13], [23]⟩,
 ⟨some 25, .faddr 2 (.tmp 1), (some ((some 24), true)), [18], [1]⟩,
 ⟨some 26, .load false 1 (.tmp 25), (some ((some 24), true)), [19, 18], [25]⟩,
 ⟨some 27, .call true i_r20_Valid [(.tmp 26)], (some ((some 24), true)), [20, 18, 18], [26]⟩,
 ⟨some 28, .pick (.tmp 24) (.tmp 27) (.cst (.bool false)), none, [18, 21], [24, 27]⟩,
 ⟨some 29, .mv (.tmp 28), none, [22, 21], [28]⟩,
 ⟨some 30, .faddr 2 (.tmp 1), (some ((some 29), true)), [23], [1]⟩,
 ⟨some 31, .load false 1 (.tmp 30), (some ((some 29), true)), [24, 23], [30]⟩,
 ⟨some 32, .faddr 0 (.tmp 3), (some ((some 29), true)), [23], [3]⟩,
 ⟨some 33, .load false 1 (.tmp 32), (some ((some 29), true)), [26, 23], [32]⟩,
 ⟨some 34, .iaddr 1 (.tmp 31) (.tmp 33), (some ((some 29), true)), [25, 27, 23], [31, 33]⟩,
 ⟨some 35, .load false 1 (.tmp 34), (some ((some 29), true)), [28, 23], [34]⟩,
 ⟨some 36, .faddr 1 (.tmp 3), (some ((some 29), true)), [23], [3]⟩,
 ⟨some 37, .load false 1 (.tmp 36), (some ((some 29), true)), [30, 23], [36]⟩,
 ⟨some 38, .bin .sub (.tmp 37) (.cst (.int .i64 1)), (some ((some 29), true)), [31, 23], [37]⟩,
 ⟨some 39, .bin .eql (.tmp 35) (.tmp 38), (some ((some 29), true)), [29, 32, 23], [35, 38]⟩,
 ⟨some 40, .pick (.tmp 29) (.tmp 39) (.cst (.bool false)), none, [23, 33], [29, 39]⟩,
 ⟨some 2, .mv (.tmp 40), none, [34, 23, 0, 1, 2, 3, 4, 5, 6, 7, 8, 9, 10, 11, 12, 13, 14, 15, 16, 17, 18, 19, 20, 21, 22, 23, 24, 25, 26, 27, 28, 29, 30, 31, 32, 33, 34], [40]⟩])
  .ret)))
def r20_WellFormed : AFunc := ⟨41, [.tmp 2], r20_WellFormed.main⟩
/-- chapman/cut.Sees -/
def cut_Sees.main : ACode := (.seq (.seq (.region false [
 ⟨some 2, .box 5 (.tmp 0), none, [], []⟩,
 ⟨some 3, .box 5 (.tmp 1), none, [], []⟩,
 ⟨some 4, .mv (.cst (.bool false)), none, [], []⟩])
  (.ghost (.kill [0, 1, 4])))
  (.seq (.region true [
 ⟨some 5, .load true 5 (.tmp 2), none, [], [2]⟩,
 ⟨some 6, .call true i_cut_WellFormed [(.tmp 5)], none, [0], [5]⟩,
 ⟨some 7, .mv (.tmp 6), none, [1, 1], [6]⟩,
 ⟨some 8, .load true 5 (.tmp 3), (some ((some 7), true)), [2], [3]⟩,
 ⟨some 9, .call true i_cut_WellFormed [(.tmp 8)], (some ((some 7), true)), [3, 2, 2], [8]⟩,
 ⟨some 10, .pick (.tmp 7) (.tmp 9) (.cst (.bool false)), none, [2, 4], [7, 9]⟩,
 ⟨some 11, .mv (.tmp 10), none, [5, 4], [10]⟩,
 ⟨some 12, .faddr 0 (.tmp 3), (some ((some 11), true)), [6], [3]⟩,
 ⟨some 13, .faddr 1 (.tmp 12), (some ((some 11), true)), [7, 6], [12]⟩,
 ⟨some 14, .load false 1 (.tmp 13), (some ((some 11), true)), [8, 6], [13]⟩,
 ⟨some 15, .faddr 2 (.tmp 2), (some ((some 11), true)), [6], [2]⟩,
 ⟨some 16, .load false 1 (.tmp 15), (some ((some 11), true)), [10, 6], [15]⟩,
 ⟨some 17, .faddr 0 (.tmp 3), (some ((some 11), true)), [6], [3]⟩,
 ⟨some 18, .faddr 0 (.tmp 17), (some ((some 11), true)), [12, 6], [17]⟩,
 ⟨some 19, .load false 1 (.tmp 18), (some ((some 11), true)), [13, 6], [18]⟩,
 ⟨some 20, .iaddr 1 (.tmp 16) (.tmp 19), (some ((some 11), true)), [11, 14, 6], [16, 19]⟩,
 ⟨some 21, .load false 1 (.tmp 20), (some ((some 11), true)), [15, 6], [20]⟩,
 ⟨some 22, .bin .leq (.tmp 14) (.tmp 21), (some ((some 11), true)), [9, 16, 6], [14, 21]⟩,
 ⟨some 23, .pick (.tmp 11) (.tmp 22) (.cst (.bool false)), none, [6, 17], [11, 22]⟩,
 ⟨some 4, .mv (.tmp 23), none, [18, 6, 0, 1, 2, 3, 4, 5, 6, 7, 8, 9, 10, 11, 12, 13, 14, 15, 16, 17, 18], [23]⟩])
  .ret))
def cut_Sees : AFunc := ⟨24, [.tmp 4], cut_Sees.main⟩
/-- chapman/chapmanref20.Sees -/
def r20_Sees.main : ACode := (.seq (.seq (.region false [
 ⟨some 2, .box 5 (.tmp 0), none, [], []⟩,
 ⟨some 3, .box 5 (.tmp 1), none, [], []⟩,
 ⟨some 4, .mv (.cst (.bool false)), none, [], []⟩])
  (.ghost (.kill [0, 1, 4])))
  (.seq (.region true [
 ⟨some 5, .load true 5 (.tmp 2), none, [], [2]⟩,
 ⟨some 6, .call true i_r20_WellFormed [(.tmp 5)], none, [0], [5]⟩,
 ⟨some 7, .mv (.tmp 6), none, [1, 1], [6]⟩,
 ⟨some 8, .load true 5 (.tmp 3), (some ((some 7), true)), [2], [3]⟩,
 ⟨some 9, .call true i_r20_WellFormed [(.tmp 8)], (some ((some 7), true)), [3, 2, 2], [8]⟩,
 ⟨some 10, .pick (.tmp 7) (.tmp 9) (.cst (.bool false)), none, [2, 4], [7, 9]⟩,
 ⟨some 11, .mv (.tmp 10), none, [5, 4], [10]⟩,
 ⟨some 12, .faddr 0 (.tmp 3), (some ((some 11), true)), [6], [3]⟩,
 ⟨some 13, .faddr 1 (.tmp 12), (some ((some 11), true)), [7, 6], [12]⟩,
 ⟨some 14, .load false 1 (.tmp 13), (some ((some 11), true)), [8, 6], [13]⟩,
 ⟨some 15, .faddr 2 (.tmp 2), (some ((some 11), true)), [6], [2]⟩,
 ⟨some 16, .load false 1 (.tmp 15), (some ((some 11), true)), [10, 6], [15]⟩,
 ⟨some 17, .faddr 0 (.tmp 3), (some ((some 11), true)), [6], [3]⟩,
 ⟨some 18, .faddr 0 (.tmp 17), (some ((some 11), true)), [12, 6], [17]⟩,
 ⟨some 19, .load false 1 (.tmp 18), (some ((some 11), true)), [13, 6], [18]⟩,
 ⟨some 20, .iaddr 1 (.tmp 16) (.tmp 19), (some ((some 11), true)), [11, 14, 6], [16, 19]⟩,
 ⟨some 21, .load false 1 (.tmp 20), (some ((some 11), true)), [15, 6], [20]⟩,
 ⟨some 22, .bin .leq (.tmp 14) (.tmp 21), (some ((some 11), true)), [9, 16, 6], [14, 21]⟩,
 ⟨some 23, .pick (.tmp 11) (.tmp 22) (.cst (.bool false)), none, [6, 17], [11, 22]⟩,
 ⟨some 4, .mv (.tmp 23), none, [18, 6, 0, 1, 2, 3, 4, 5, 6, 7, 8, 9, 10, 11, 12, 13, 14, 15, 16, 17, 18], [23]⟩])
  .ret))
def r20_Sees : AFunc := ⟨24, [.tmp 4], r20_Sees.main⟩
/-- chapman/cut.Before -/
def cut_Before.main : ACode := (.seq (.seq (.region false [
 ⟨some 2, .box 5 (.tmp 0), none, [], []⟩,
 ⟨some 3, .box 5 (.tmp 1), none, [], []⟩,
 ⟨some 4, .mv (.cst (.bool false)), none, [], []⟩])
  (.ghost (.kill [0, 1, 4])))
  (.seq (.region false [
 ⟨some 5, .load true 5 (.tmp 2), none, [], []⟩,
 ⟨some 6, .call true i_cut_WellFormed [(.tmp 5)], none, [], []⟩,
 ⟨some 7, .mv (.tmp 6), none, [], []⟩,
 ⟨some 8, .load true 5 (.tmp 3), (some ((some 7), true)), [], []⟩,
 ⟨some 9, .call true i_cut_WellFormed [(.tmp 8)], (some ((some 7), true)), [], []⟩,
 ⟨some 10, .pick (.tmp 7) (.tmp 9) (.cst (.bool false)), none, [], []⟩,
 ⟨some 11, .mv (.tmp 10), none, [], []⟩,
 ⟨some 12, .load true 5 (.tmp 2), (some ((some 11), true)), [], []⟩,
 ⟨some 13, .load true 5 (.tmp 3), (some ((some 11), true)), [], []⟩,
 ⟨some 14, .call true i_cut_compare [(.tmp 12), (.tmp 13)], (some ((some 11), true)), [], []⟩,
 ⟨some 15, .bin .lss (.tmp 14) (.cst (.int .i64 0)), (some ((some 11), true)), [], []⟩,
 ⟨some 16, .pick (.tmp 11) (.tmp 15) (.cst (.bool false)), none, [], []⟩,
 ⟨some 4, .mv (.tmp 16), none, [], []⟩])
  .ret))
def cut_Before : AFunc := ⟨17, [.tmp 4], cut_Before.main⟩
/-- chapman/chapmanref20.Before -/
def r20_Before.main : ACode := (.seq (.seq (.region false [
 ⟨some 2, .box 5 (.tmp 0), none, [], []⟩,
 ⟨some 3, .box 5 (.tmp 1), none, [], []⟩,
 ⟨some 4, .mv (.cst (.bool false)), none, [], []⟩])
  (.ghost (.kill [0, 1, 4])))
  (.seq (.seq (.seq (.region false [
 ⟨some 7, .load true 5 (.tmp 2), none, [], []⟩,
 ⟨some 8, .call true i_r20_WellFormed [(.tmp 7)], none, [], []⟩,
 ⟨some 9, .un .not (.tmp 8), none, [], []⟩,
 ⟨some 10, .mv (.tmp 9), none, [], []⟩,
 ⟨some 11, .load true 5 (.tmp 3), (some ((some 10), false)), [], []⟩,
 ⟨some 12, .call true i_r20_WellFormed [(.tmp 11)], (some ((some 10), false)), [], []⟩,
 ⟨some 13, .un .not (.tmp 12), (some ((some 10), false)), [], []⟩,
 ⟨some 14, .pick (.tmp 10) (.cst (.bool true)) (.tmp 13), none, [], []⟩])
  (.ghost (.kill [7, 8, 9, 10, 11, 12, 13])))
  (.cond (.tmp 14) (.seq (.region false [
      ⟨some 4, .mv (.cst (.bool false)), none, [], []⟩])
    .ret)
  .skip))
  (.seq (.seq (.region true [
 ⟨some 15, .load true 5 (.tmp 2), none, [], [2]⟩,
 ⟨some 16, .call true i_r20_Weight [(.tmp 15)], none, [0], [15]⟩,
 ⟨some 17, .load true 5 (.tmp 3), none, [], [3]⟩,
 ⟨some 18, .call true i_r20_Weight [(.tmp 17)], none, [2, 1], [17]⟩,
 ⟨some 5, .mv (.tmp 16), none, [1, 3, 0, 1], [16]⟩,
 ⟨some 6, .mv (.tmp 18), none, [3, 4, 0, 1, 2, 3, 4], [18]⟩])
  (.ghost (.kill [14, 15, 16, 17, 18])))
  (.seq (.seq (.seq (.region false [
 ⟨some 19, .mv (.tmp 5), none, [], []⟩,
 ⟨some 20, .mv (.tmp 6), none, [], []⟩,
 ⟨some 21, .bin .neq (.tmp 19) (.tmp 20), none, [], []⟩])
  (.ghost (.kill [19, 20])))
  (.cond (.tmp 21) (.seq (.region false [
      ⟨some 22, .mv (.tmp 5), none, [], []⟩,
      ⟨some 23, .mv (.tmp 6), none, [], []⟩,
      ⟨some 24, .bin .lss (.tmp 22) (.tmp 23), none, [], []⟩,
      ⟨some 4, .mv (.tmp 24), none, [], []⟩])
    .ret)
  .skip))
  (.seq (.seq (.seq (.region false [
 ⟨some 25, .faddr 0 (.tmp 2), none, [], []⟩,
 ⟨some 26, .faddr 0 (.tmp 25), none, [], []⟩,
 ⟨some 27, .load false 1 (.tmp 26), none, [], []⟩,
 ⟨some 28, .faddr 0 (.tmp 3), none, [], []⟩,
 ⟨some 29, .faddr 0 (.tmp 28), none, [], []⟩,
 ⟨some 30, .load false 1 (.tmp 29), none, [], []⟩,
 ⟨some 31, .bin .neq (.tmp 27) (.tmp 30), none, [], []⟩])
  (.ghost (.kill [5, 6, 21, 25, 26, 27, 28, 29, 30])))
  (.cond (.tmp 31) (.seq (.region false [
      ⟨some 32, .faddr 0 (.tmp 2), none, [], []⟩,
      ⟨some 33, .faddr 0 (.tmp 32), none, [], []⟩,
      ⟨some 34, .load false 1 (.tmp 33), none, [], []⟩,
      ⟨some 35, .faddr 0 (.tmp 3), none, [], []⟩,
      ⟨some 36, .faddr 0 (.tmp 35), none, [], []⟩,
      ⟨some 37, .load false 1 (.tmp 36), none, [], []⟩,
      ⟨some 38, .bin .lss (.tmp 34) (.tmp 37), none, [], []⟩,
      ⟨some 4, .mv (.tmp 38), none, [], []⟩])
    .ret)
  .skip))
  (.seq (.region false [
 ⟨some 39, .faddr 0 (.tmp 2), none, [], []⟩,
 ⟨some 40, .faddr 1 (.tmp 39), none, [], []⟩,
 ⟨some 41, .load false 1 (.tmp 40), none, [], []⟩,
 ⟨some 42, .faddr 0 (.tmp 3), none, [], []⟩,
 ⟨some 43, .faddr 1 (.tmp 42), none, [], []⟩,
 ⟨some 44, .load false 1 (.tmp 43), none, [], []⟩,
 ⟨some 45, .bin .lss (.tmp 41) (.tmp 44), none, [], []⟩,
 ⟨some 4, .mv (.tmp 45), none, [], []⟩])
  .ret))))))
def r20_Before : AFunc := ⟨46, [.tmp 4], r20_Before.main⟩
/-- chapman/chapmanlaw20.closure -/
def l20_closure.main : ACode := (.seq (.region false [
 ⟨some 4, .alloc [.nils, (.int .i64 0)], none, [], []⟩])
  (.seq (.seq (.region false [
 ⟨some 8, .mv (.tmp 0), none, [], []⟩,
 ⟨some 9, .mv (.tmp 1), none, [], []⟩,
 ⟨some 10, .call true i_cut_Closure [(.tmp 8), (.tmp 9)], none, [], []⟩,
 ⟨some 7, .mv (.tmp 10), none, [], []⟩,
 ⟨some 11, .extr (.tmp 7) 0, none, [], []⟩,
 ⟨some 12, .extr (.tmp 7) 1, none, [], []⟩,
 ⟨some 5, .mv (.tmp 11), none, [], []⟩,
 ⟨some 6, .mv (.tmp 12), none, [], []⟩])
  (.ghost (.kill [0, 1, 7, 8, 9, 10, 11, 12])))
  (.seq (.region false [
 ⟨some 13, .mv (.tmp 5), none, [], []⟩,
 ⟨some 14, .mv (.tmp 6), none, [], []⟩,
 ⟨some 15, .build [.nils, (.int .i64 0)] [(0, 1, (.tmp 13)), (1, 1, (.tmp 14))], none, [], []⟩,
 ⟨none, .store 2 (.tmp 4) (.tmp 15), none, [], []⟩])
  .ret)))
def l20_closure : AFunc := ⟨16, [.cell 4 true 2], l20_closure.main⟩
/-- chapman/chapmanref20.ClosureIn -/
def r20_ClosureIn.c0 : ACode := (.seq (.region false [
 ⟨some 99, .mv (.tmp 6), none, [], []⟩,
 ⟨some 100, .build [.nils, (.int .i64 0)] [(0, 1, (.tmp 99))], none, [], []⟩,
 ⟨none, .store 2 (.tmp 4) (.tmp 100), none, [], []⟩])
  .ret)
def r20_ClosureIn.c1 : ACode := (.seq (.region false [
 ⟨some 64, .mv (.tmp 10), none, [], []⟩,
 ⟨some 65, .bin .add (.tmp 64) (.cst (.int .i64 1)), none, [], []⟩,
 ⟨some 10, .mv (.tmp 65), none, [], []⟩])
  (.ghost (.kill [64, 65])))
def r20_ClosureIn.b4 : ACode := (.seq (.seq (.seq (.region false [
 ⟨some 66, .mv (.tmp 11), none, [], []⟩,
 ⟨some 67, .faddr 0 (.tmp 9), none, [], []⟩,
 ⟨some 68, .load false 1 (.tmp 67), none, [], []⟩,
 ⟨some 69, .mv (.tmp 10), none, [], []⟩,
 ⟨some 70, .iaddr 1 (.tmp 68) (.tmp 69), none, [], []⟩,
 ⟨some 71, .load false 1 (.tmp 70), none, [], []⟩,
 ⟨some 72, .bin .leq (.tmp 66) (.tmp 71), none, [], []⟩])
  (.ghost (.kill [66, 67, 68, 69, 70, 71])))
  (.cond (.tmp 72) .skip
  (.exit 8)))
  (.seq (.block 9 (.seq (.seq (.region false [
 ⟨some 75, .mv (.tmp 0), none, [], []⟩,
 ⟨some 76, .mv (.tmp 10), none, [], []⟩,
 ⟨some 77, .mv (.tmp 11), none, [], []⟩,
 ⟨some 78, .build [(.int .i64 0), (.int .i64 0)] [(0, 1, (.tmp 76)), (1, 1, (.tmp 77))], none, [], []⟩,
 ⟨some 79, .call true i_r20_Find [(.tmp 75), (.tmp 78)], none, [], []⟩,
 ⟨some 12, .mv (.tmp 79), none, [], []⟩])
  (.ghost (.kill [72, 75, 76, 77, 78, 79])))
  (.seq (.seq (.seq (.region false [
 ⟨some 80, .mv (.tmp 12), none, [], []⟩,
 ⟨some 81, .bin .lss (.tmp 80) (.cst (.int .i64 0)), none, [], []⟩,
 ⟨some 82, .mv (.tmp 81), none, [], []⟩,
 ⟨some 83, .mv (.tmp 0), (some ((some 82), false)), [], []⟩,
 ⟨some 84, .mv (.tmp 12), (some ((some 82), false)), [], []⟩,
 ⟨some 85, .iaddr 5 (.tmp 83) (.tmp 84), (some ((some 82), false)), [], []⟩,
 ⟨some 86, .load true 5 (.tmp 85), (some ((some 82), false)), [], []⟩,
 ⟨some 87, .call true i_r20_WellFormed [(.tmp 86)], (some ((some 82), false)), [], []⟩,
 ⟨some 88, .un .not (.tmp 87), (some ((some 82), false)), [], []⟩,
 ⟨some 89, .pick (.tmp 82) (.cst (.bool true)) (.tmp 88), none, [], []⟩])
  (.ghost (.kill [80, 81, 82, 83, 84, 85, 86, 87, 88])))
  (.cond (.tmp 89) (.seq (.region false [
      ⟨some 90, .build [.nils, (.int .i64 0)] [(1, 1, (.cst (.int .i64 200)))], none, [], []⟩,
      ⟨none, .store 2 (.tmp 4) (.tmp 90), none, [], []⟩])
    .ret)
  .skip))
  (.seq (.region false [
 ⟨some 91, .mv (.tmp 6), none, [], []⟩,
 ⟨some 92, .mv (.tmp 0), none, [], []⟩,
 ⟨some 93, .mv (.tmp 12), none, [], []⟩,
 ⟨some 94, .iaddr 5 (.tmp 92) (.tmp 93), none, [], []⟩,
 ⟨some 95, .faddr 2 (.tmp 94), none, [], []⟩,
 ⟨some 96, .load false 1 (.tmp 95), none, [], []⟩,
 ⟨some 97, .call true i_r20_JoinIn [(.tmp 91), (.tmp 96)], none, [], []⟩,
 ⟨some 98, .field 0 1 false (.tmp 97), none, [], []⟩,
 ⟨some 6, .mv (.tmp 98), none, [], []⟩])
  (.ghost (.kill [12, 89, 91, 92, 93, 94, 95, 96, 97, 98]))))))
  (.seq (.region false [
 ⟨some 73, .mv (.tmp 11), none, [], []⟩,
 ⟨some 74, .bin .add (.tmp 73) (.cst (.int .i64 1)), none, [], []⟩,
 ⟨some 11, .mv (.tmp 74), none, [], []⟩])
  (.ghost (.kill [73, 74])))))
def r20_ClosureIn.b3 : ACode := (.seq (.seq (.seq (.region false [
 ⟨some 60, .mv (.tmp 10), none, [], []⟩,
 ⟨some 61, .mv (.tmp 6), none, [], []⟩,
 ⟨some 62, .len .sl (.tmp 61), none, [], []⟩,
 ⟨some 63, .bin .lss (.tmp 60) (.tmp 62), none, [], []⟩])
  (.ghost (.kill [60, 61, 62])))
  (.cond (.tmp 63) .skip
  (.exit 6)))
  (.seq (.block 7 (.seq (.seq (.region false [
 ⟨some 11, .mv (.cst (.int .i64 1)), none, [], []⟩])
  (.ghost (.kill [63])))
  (.seq (.block 8 (.loop r20_ClosureIn.b4))
  (.ghost (.kill [11, 72])))))
  r20_ClosureIn.c1))
def r20_ClosureIn.b2 : ACode := (.seq (.seq (.seq (.region false [
 ⟨some 53, .faddr 0 (.tmp 9), none, [], []⟩,
 ⟨some 54, .load false 1 (.tmp 53), none, [], []⟩,
 ⟨some 55, .mv (.tmp 6), none, [], []⟩,
 ⟨some 56, .call true i_r20_Same [(.tmp 54), (.tmp 55)], none, [], []⟩,
 ⟨some 57, .un .not (.tmp 56), none, [], []⟩])
  (.ghost (.kill [53, 54, 55, 56])))
  (.cond (.tmp 57) .skip
  (.exit 4)))
  (.block 5 (.seq (.seq (.region false [
 ⟨some 58, .mv (.tmp 6), none, [], []⟩,
 ⟨some 59, .build [.nils, (.int .i64 0)] [(0, 1, (.tmp 58))], none, [], []⟩,
 ⟨none, .store 2 (.tmp 9) (.tmp 59), none, [], []⟩])
  (.ghost (.kill [57, 58, 59])))
  (.seq (.region false [
 ⟨some 10, .mv (.cst (.int .i64 0)), none, [], []⟩])
  (.seq (.block 6 (.loop r20_ClosureIn.b3))
  (.ghost (.kill [10, 63])))))))
def r20_ClosureIn.c2 : ACode := (.seq (.seq (.region false [
 ⟨some 52, .build [.nils, (.int .i64 0)] [], none, [], []⟩,
 ⟨some 9, .alloc [.nils, (.int .i64 0)], none, [], []⟩,
 ⟨none, .store 2 (.tmp 9) (.tmp 52), none, [], []⟩])
  (.ghost (.kill [52])))
  (.seq (.seq (.block 4 (.loop r20_ClosureIn.b2))
  (.ghost (.kill [0, 9, 57])))
  r20_ClosureIn.c0))
def r20_ClosureIn.b1 : ACode := (.seq (.seq (.seq (.region false [
 ⟨some 28, .mv (.tmp 7), none, [], []⟩,
 ⟨some 29, .mv (.tmp 1), none, [], []⟩,
 ⟨some 30, .len .sl (.tmp 29), none, [], []⟩,
 ⟨some 31, .bin .lss (.tmp 28) (.tmp 30), none, [], []⟩])
  (.ghost (.kill [28, 29, 30])))
  (.cond (.tmp 31) .skip
  (.exit 2)))
  (.seq (.trunc (.block 3 (.seq (.seq (.region false [
 ⟨some 34, .mv (.tmp 0), none, [], []⟩,
 ⟨some 35, .mv (.tmp 0), none, [], []⟩,
 ⟨some 36, .mv (.tmp 1), none, [], []⟩,
 ⟨some 37, .mv (.tmp 7), none, [], []⟩,
 ⟨some 38, .iaddr 2 (.tmp 36) (.tmp 37), none, [], []⟩,
 ⟨some 39, .load true 2 (.tmp 38), none, [], []⟩,
 ⟨some 40, .call true i_r20_Find [(.tmp 35), (.tmp 39)], none, [], []⟩,
 ⟨some 41, .iaddr 5 (.tmp 34) (.tmp 40), none, [], []⟩,
 ⟨some 42, .load true 5 (.tmp 41), none, [], []⟩,
 ⟨some 8, .alloc [(.int .i64 0), (.int .i64 0), .nils, (.int .i64 0), .nils], none, [], []⟩,
 ⟨none, .store 5 (.tmp 8) (.tmp 42), none, [], []⟩])
  (.ghost (.kill [31, 34, 35, 36, 37, 38, 39, 40, 41, 42])))
  (.seq (.seq (.seq (.region false [
 ⟨some 43, .load true 5 (.tmp 8), none, [], []⟩,
 ⟨some 44, .call true i_r20_WellFormed [(.tmp 43)], none, [], []⟩,
 ⟨some 45, .un .not (.tmp 44), none, [], []⟩])
  (.ghost (.kill [43, 44])))
  (.cond (.tmp 45) (.seq (.region false [
      ⟨some 46, .build [.nils, (.int .i64 0)] [(1, 1, (.cst (.int .i64 200)))], none, [], []⟩,
      ⟨none, .store 2 (.tmp 4) (.tmp 46), none, [], []⟩])
    .ret)
  .skip))
  (.seq (.region false [
 ⟨some 47, .mv (.tmp 6), none, [], []⟩,
 ⟨some 48, .load true 5 (.tmp 8), none, [], []⟩,
 ⟨some 49, .call true i_r20_Own [(.tmp 48)], none, [], []⟩,
 ⟨some 50, .call true i_r20_JoinIn [(.tmp 47), (.tmp 49)], none, [], []⟩,
 ⟨some 51, .field 0 1 false (.tmp 50), none, [], []⟩,
 ⟨some 6, .mv (.tmp 51), none, [], []⟩])
  (.ghost (.kill [8, 45, 47, 48, 49, 50, 51])))))))
  (.seq (.region false [
 ⟨some 32, .mv (.tmp 7), none, [], []⟩,
 ⟨some 33, .bin .add (.tmp 32) (.cst (.int .i64 1)), none, [], []⟩,
 ⟨some 7, .mv (.tmp 33), none, [], []⟩])
  (.ghost (.kill [32, 33])))))
def r20_ClosureIn.c3 : ACode := (.seq (.seq (.region false [
 ⟨some 27, .call true i_r20_Zero [], none, [], []⟩,
 ⟨some 6, .mv (.tmp 27), none, [], []⟩])
  (.ghost (.kill [27])))
  (.seq (.seq (.region false [
 ⟨some 7, .mv (.cst (.int .i64 0)), none, [], []⟩])
  (.seq (.block 2 (.loop r20_ClosureIn.b1))
  (.ghost (.kill [1, 7, 31]))))
  r20_ClosureIn.c2))
def r20_ClosureIn.b0 : ACode := (.seq (.seq (.seq (.region false [
 ⟨some 13, .mv (.tmp 5), none, [], []⟩,
 ⟨some 14, .mv (.tmp 1), none, [], []⟩,
 ⟨some 15, .len .sl (.tmp 14), none, [], []⟩,
 ⟨some 16, .bin .lss (.tmp 13) (.tmp 15), none, [], []⟩])
  (.ghost (.kill [13, 14, 15])))
  (.cond (.tmp 16) .skip
  (.exit 0)))
  (.seq (.seq (.block 1 (.seq (.seq (.region false [
 ⟨some 19, .mv (.tmp 0), none, [], []⟩,
 ⟨some 20, .mv (.tmp 1), none, [], []⟩,
 ⟨some 21, .mv (.tmp 5), none, [], []⟩,
 ⟨some 22, .iaddr 2 (.tmp 20) (.tmp 21), none, [], []⟩,
 ⟨some 23, .load true 2 (.tmp 22), none, [], []⟩,
 ⟨some 24, .call true i_r20_Find [(.tmp 19), (.tmp 23)], none, [], []⟩,
 ⟨some 25, .bin .lss (.tmp 24) (.cst (.int .i64 0)), none, [], []⟩])
  (.ghost (.kill [16, 19, 20, 21, 22, 23, 24])))
  (.cond (.tmp 25) (.seq (.region false [
      ⟨some 26, .build [.nils, (.int .i64 0)] [(1, 1, (.cst (.int .i64 4)))], none, [], []⟩,
      ⟨none, .store 2 (.tmp 4) (.tmp 26), none, [], []⟩])
    .ret)
  .skip)))
  (.ghost (.kill [25])))
  (.seq (.region false [
 ⟨some 17, .mv (.tmp 5), none, [], []⟩,
 ⟨some 18, .bin .add (.tmp 17) (.cst (.int .i64 1)), none, [], []⟩,
 ⟨some 5, .mv (.tmp 18), none, [], []⟩])
  (.ghost (.kill [17, 18])))))
def r20_ClosureIn.main : ACode := (.seq (.region false [
 ⟨some 4, .alloc [.nils, (.int .i64 0)], none, [], []⟩])
  (.seq (.seq (.region false [
 ⟨some 5, .mv (.cst (.int .i64 0)), none, [], []⟩])
  (.seq (.block 0 (.loop r20_ClosureIn.b0))
  (.ghost (.kill [5, 16]))))
  r20_ClosureIn.c3))
def r20_ClosureIn.k4 : List Item := [.inBlock 8, .code (.ghost (.kill [11, 72])), .inBlock 7, .code r20_ClosureIn.c1, .inLoop r20_ClosureIn.b3, .inBlock 6, .code (.ghost (.kill [10, 63])), .inBlock 5, .inLoop r20_ClosureIn.b2, .inBlock 4, .code (.ghost (.kill [0, 9, 57])), .code r20_ClosureIn.c0]
def r20_ClosureIn.k3 : List Item := [.inBlock 6, .code (.ghost (.kill [10, 63])), .inBlock 5, .inLoop r20_ClosureIn.b2, .inBlock 4, .code (.ghost (.kill [0, 9, 57])), .code r20_ClosureIn.c0]
def r20_ClosureIn.k2 : List Item := [.inBlock 4, .code (.ghost (.kill [0, 9, 57])), .code r20_ClosureIn.c0]
def r20_ClosureIn.k1 : List Item := [.inBlock 2, .code (.ghost (.kill [1, 7, 31])), .code r20_ClosureIn.c2]
def r20_ClosureIn.k0 : List Item := [.inBlock 0, .code (.ghost (.kill [5, 16])), .code r20_ClosureIn.c3]
def r20_ClosureIn : AFunc := ⟨101, [.cell 4 true 2], r20_ClosureIn.main⟩
/-- chapman/chapmanref20.Shuffled -/
def r20_Shuffled.c0 : ACode := (.seq (.region false [
 ⟨some 42, .mv (.tmp 5), none, [], []⟩,
 ⟨some 43, .mv (.tmp 5), none, [], []⟩,
 ⟨some 44, .mv (.tmp 5), none, [], []⟩,
 ⟨some 45, .len .sl (.tmp 44), none, [], []⟩,
 ⟨some 46, .bin .quo (.tmp 45) (.cst (.int .i64 3)), none, [], []⟩,
 ⟨some 47, .slice 5 (.tmp 43) none (some (.tmp 46)) none, none, [], []⟩,
 ⟨some 48, .append 5 72 (.tmp 42) (.tmp 47), none, [], []⟩,
 ⟨some 4, .mv (.tmp 48), none, [], []⟩])
  .ret)
def r20_Shuffled.c1 : ACode := (.ghost (.kill [0, 1, 6, 12]))
def r20_Shuffled.c2 : ACode := (.seq (.region false [
 ⟨some 13, .mv (.tmp 6), none, [], []⟩,
 ⟨some 14, .bin .add (.tmp 13) (.cst (.int .i64 1)), none, [], []⟩,
 ⟨some 6, .mv (.tmp 14), none, [], []⟩])
  (.ghost (.kill [13, 14])))
def r20_Shuffled.c3 : ACode := (.seq (.regionD ⟨[27, 31, 37], [], [([27], [32, 33, 34, 35, 36, 38, 39]), ([31], [38, 39])]⟩ [
 ⟨some 27, .bslice 5 0 [(.int .i64 0), (.int .i64 0), .nils, (.int .i64 0), .nils] [], none, [], []⟩,
 ⟨some 28, .mv (.tmp 5), none, [], [5]⟩,
 ⟨some 29, .mv (.tmp 7), none, [], [7]⟩,
 ⟨some 30, .slice 5 (.tmp 28) none (some (.tmp 29)) none, none, [1, 2], [28, 29]⟩,
 ⟨some 31, .append 5 72 (.tmp 27) (.tmp 30), none, [0, 3], [27, 30]⟩,
 ⟨some 32, .mv (.tmp 0), none, [], [0]⟩,
 ⟨some 33, .mv (.tmp 6), none, [], [6]⟩,
 ⟨some 34, .iaddr 5 (.tmp 32) (.tmp 33), none, [5, 6], [32, 33]⟩,
 ⟨some 35, .load true 5 (.tmp 34), none, [7], [34]⟩,
 ⟨some 36, .bslice 5 1 [(.int .i64 0), (.int .i64 0), .nils, (.int .i64 0), .nils] [(0, (.tmp 35))], none, [8], [35]⟩,
 ⟨some 37, .append 5 72 (.tmp 31) (.tmp 36), none, [4, 9, 4], [31, 36]⟩,
 ⟨some 38, .mv (.tmp 5), none, [], [5]⟩,
 ⟨some 39, .mv (.tmp 7), none, [], [7]⟩,
 ⟨some 40, .slice 5 (.tmp 38) (some (.tmp 39)) none none, none, [11, 12], [38, 39]⟩,
 ⟨some 41, .append 5 72 (.tmp 37) (.tmp 40), none, [10, 13, 10], [37, 40]⟩,
 ⟨some 5, .mv (.tmp 41), none, [14, 14, 0, 1, 2, 3, 4, 5, 6, 7, 8, 9, 10, 11, 12, 13, 14], [41]⟩])
  (.ghost (.kill [7, 27, 28, 29, 30, 31, 32, 33, 34, 35, 36, 37, 38, 39, 40, 41])))
def r20_Shuffled.b0 : ACode := (.seq (.seq (.seq (.region false [
 ⟨some 9, .mv (.tmp 6), none, [], []⟩,
 ⟨some 10, .mv (.tmp 0), none, [], []⟩,
 ⟨some 11, .len .sl (.tmp 10), none, [], []⟩,
 ⟨some 12, .bin .lss (.tmp 9) (.tmp 11), none, [], []⟩])
  (.ghost (.kill [9, 10, 11])))
  (.cond (.tmp 12) .skip
  (.exit 0)))
  (.seq (.block 1 (.seq (.seq (.region false [
 ⟨some 7, .mv (.cst (.int .i64 0)), none, [], []⟩])
  (.ghost (.kill [12])))
  (.seq (.seq (.seq (.region false [
 ⟨some 15, .mv (.tmp 6), none, [], []⟩,
 ⟨some 16, .mv (.tmp 1), none, [], []⟩,
 ⟨some 17, .len .sl (.tmp 16), none, [], []⟩,
 ⟨some 18, .bin .lss (.tmp 15) (.tmp 17), none, [], []⟩])
  (.ghost (.kill [15, 16, 17])))
  (.seq (.cond (.tmp 18) (.seq (.region false [
      ⟨some 19, .mv (.tmp 1), none, [], []⟩,
      ⟨some 20, .mv (.tmp 6), none, [], []⟩,
      ⟨some 21, .iaddr 1 (.tmp 19) (.tmp 20), none, [], []⟩,
      ⟨some 22, .load false 1 (.tmp 21), none, [], []⟩,
      ⟨some 23, .conv .i64 (.tmp 22), none, [], []⟩,
      ⟨some 24, .mv (.tmp 6), none, [], []⟩,
      ⟨some 25, .bin .add (.tmp 24) (.cst (.int .i64 1)), none, [], []⟩,
      ⟨some 26, .bin .rem (.tmp 23) (.tmp 25), none, [], []⟩,
      ⟨some 7, .mv (.tmp 26), none, [], []⟩])
    (.ghost (.kill [18, 19, 20, 21, 22, 23, 24, 25, 26])))
  .skip)
  (.ghost (.kill [18]))))
  r20_Shuffled.c3)))
  r20_Shuffled.c2))
def r20_Shuffled.main : ACode := (.seq (.seq (.region false [
 ⟨some 4, .mv (.cst .nils), none, [], []⟩])
  (.ghost (.kill [4])))
  (.seq (.seq (.region false [
 ⟨some 8, .bslice 5 0 [(.int .i64 0), (.int .i64 0), .nils, (.int .i64 0), .nils] [], none, [], []⟩,
 ⟨some 5, .mv (.tmp 8), none, [], []⟩])
  (.ghost (.kill [8])))
  (.seq (.seq (.region false [
 ⟨some 6, .mv (.cst (.int .i64 0)), none, [], []⟩])
  (.seq (.block 0 (.loop r20_Shuffled.b0))
  r20_Shuffled.c1))
  r20_Shuffled.c0)))
def r20_Shuffled.k0 : List Item := [.inBlock 0, .code r20_Shuffled.c1, .code r20_Shuffled.c0]
def r20_Shuffled : AFunc := ⟨49, [.tmp 4], r20_Shuffled.main⟩
/-- chapman/chapmanlaw20.fits -/
def l20_fits.c0 : ACode := (.seq (.region false [
 ⟨some 4, .mv (.cst (.bool true)), none, [], []⟩])
  .ret)
def l20_fits.b0 : ACode := (.seq (.seq (.seq (.region false [
 ⟨some 6, .mv (.tmp 5), none, [], []⟩,
 ⟨some 7, .mv (.tmp 1), none, [], []⟩,
 ⟨some 8, .len .sl (.tmp 7), none, [], []⟩,
 ⟨some 9, .bin .lss (.tmp 6) (.tmp 8), none, [], []⟩])
  (.ghost (.kill [6, 7, 8])))
  (.cond (.tmp 9) .skip
  (.exit 0)))
  (.seq (.seq (.block 1 (.seq (.seq (.region false [
 ⟨some 12, .mv (.tmp 1), none, [], []⟩,
 ⟨some 13, .mv (.tmp 5), none, [], []⟩,
 ⟨some 14, .iaddr 1 (.tmp 12) (.tmp 13), none, [], []⟩,
 ⟨some 15, .load false 1 (.tmp 14), none, [], []⟩,
 ⟨some 16, .bin .lss (.tmp 15) (.cst (.int .i64 0)), none, [], []⟩,
 ⟨some 17, .mv (.tmp 16), none, [], []⟩,
 ⟨some 18, .mv (.tmp 1), (some ((some 17), false)), [], []⟩,
 ⟨some 19, .mv (.tmp 5), (some ((some 17), false)), [], []⟩,
 ⟨some 20, .iaddr 1 (.tmp 18) (.tmp 19), (some ((some 17), false)), [], []⟩,
 ⟨some 21, .load false 1 (.tmp 20), (some ((some 17), false)), [], []⟩,
 ⟨some 22, .mv (.tmp 0), (some ((some 17), false)), [], []⟩,
 ⟨some 23, .len .sl (.tmp 22), (some ((some 17), false)), [], []⟩,
 ⟨some 24, .bin .geq (.tmp 21) (.tmp 23), (some ((some 17), false)), [], []⟩,
 ⟨some 25, .pick (.tmp 17) (.cst (.bool true)) (.tmp 24), none, [], []⟩])
  (.ghost (.kill [9, 12, 13, 14, 15, 16, 17, 18, 19, 20, 21, 22, 23, 24])))
  (.cond (.tmp 25) (.seq (.region false [
      ⟨some 4, .mv (.cst (.bool false)), none, [], []⟩])
    .ret)
  .skip)))
  (.ghost (.kill [25])))
  (.seq (.region false [
 ⟨some 10, .mv (.tmp 5), none, [], []⟩,
 ⟨some 11, .bin .add (.tmp 10) (.cst (.int .i64 1)), none, [], []⟩,
 ⟨some 5, .mv (.tmp 11), none, [], []⟩])
  (.ghost (.kill [10, 11])))))
def l20_fits.main : ACode := (.seq (.seq (.region false [
 ⟨some 4, .mv (.cst (.bool false)), none, [], []⟩])
  (.ghost (.kill [4])))
  (.seq (.seq (.region false [
 ⟨some 5, .mv (.cst (.int .i64 0)), none, [], []⟩])
  (.seq (.block 0 (.loop l20_fits.b0))
  (.ghost (.kill [0, 1, 5, 9]))))
  l20_fits.c0))
def l20_fits.k0 : List Item := [.inBlock 0, .code (.ghost (.kill [0, 1, 5, 9])), .code l20_fits.c0]
def l20_fits : AFunc := ⟨26, [.tmp 4], l20_fits.main⟩
/-- chapman/chapmanref20.SameNames -/
def r20_SameNames.c0 : ACode := (.seq (.region false [
 ⟨some 4, .mv (.cst (.bool true)), none, [], []⟩])
  .ret)
def r20_SameNames.c1 : ACode := (.ghost (.kill [0, 1, 5, 14]))
def r20_SameNames.b0 : ACode := (.seq (.seq (.seq (.region false [
 ⟨some 11, .mv (.tmp 5), none, [], []⟩,
 ⟨some 12, .mv (.tmp 0), none, [], []⟩,
 ⟨some 13, .len .sl (.tmp 12), none, [], []⟩,
 ⟨some 14, .bin .lss (.tmp 11) (.tmp 13), none, [], []⟩])
  (.ghost (.kill [11, 12, 13])))
  (.cond (.tmp 14) .skip
  (.exit 0)))
  (.seq (.seq (.block 1 (.seq (.seq (.region true [
 ⟨some 17, .mv (.tmp 0), none, [], [0]⟩,
 ⟨some 18, .mv (.tmp 5), none, [], [5]⟩,
 ⟨some 19, .iaddr 2 (.tmp 17) (.tmp 18), none, [0, 1], [17, 18]⟩,
 ⟨some 20, .load true 2 (.tmp 19), none, [2], [19]⟩,
 ⟨some 21, .mv (.tmp 1), none, [], [1]⟩,
 ⟨some 22, .mv (.tmp 5), none, [], [5]⟩,
 ⟨some 23, .iaddr 2 (.tmp 21) (.tmp 22), none, [4, 5], [21, 22]⟩,
 ⟨some 24, .load true 2 (.tmp 23), none, [6], [23]⟩,
 ⟨some 25, .eqs true (.row [(0, 1, false, (.int .i64)), (1, 1, false, (.int .i64))]) (.tmp 20) (.tmp 24), none, [3, 7], [20, 24]⟩])
  (.ghost (.kill [14, 17, 18, 19, 20, 21, 22, 23, 24])))
  (.cond (.tmp 25) (.seq (.region false [
      ⟨some 4, .mv (.cst (.bool false)), none, [], []⟩])
    .ret)
  .skip)))
  (.ghost (.kill [25])))
  (.seq (.region false [
 ⟨some 15, .mv (.tmp 5), none, [], []⟩,
 ⟨some 16, .bin .add (.tmp 15) (.cst (.int .i64 1)), none, [], []⟩,
 ⟨some 5, .mv (.tmp 16), none, [], []⟩])
  (.ghost (.kill [15, 16])))))
def r20_SameNames.main : ACode := (.seq (.seq (.region false [
 ⟨some 4, .mv (.cst (.bool false)), none, [], []⟩])
  (.ghost (.kill [4])))
  (.seq (.seq (.seq (.region false [
 ⟨some 6, .mv (.tmp 0), none, [], []⟩,
 ⟨some 7, .len .sl (.tmp 6), none, [], []⟩,
 ⟨some 8, .mv (.tmp 1), none, [], []⟩,
 ⟨some 9, .len .sl (.tmp 8), none, [], []⟩,
 ⟨some 10, .bin .neq (.tmp 7) (.tmp 9), none, [], []⟩])
  (.ghost (.kill [6, 7, 8, 9])))
  (.cond (.tmp 10) (.seq (.region false [
      ⟨some 4, .mv (.cst (.bool false)), none, [], []⟩])
    .ret)
  .skip))
  (.seq (.seq (.seq (.region false [
 ⟨some 5, .mv (.cst (.int .i64 0)), none, [], []⟩])
  (.ghost (.kill [10])))
  (.seq (.block 0 (.loop r20_SameNames.b0))
  r20_SameNames.c1))
  r20_SameNames.c0)))
def r20_SameNames.k0 : List Item := [.inBlock 0, .code r20_SameNames.c1, .code r20_SameNames.c0]
def r20_SameNames : AFunc := ⟨26, [.tmp 4], r20_SameNames.main⟩
/-- chapman/chapmanref20.Names -/
def r20_Names.c0 : ACode := (.seq (.region false [
 ⟨some 25, .mv (.tmp 5), none, [], []⟩,
 ⟨some 4, .mv (.tmp 25), none, [], []⟩])
  .ret)
def r20_Names.c1 : ACode := (.ghost (.kill [0, 1, 6, 11]))
def r20_Names.b0 : ACode := (.seq (.seq (.seq (.region false [
 ⟨some 8, .mv (.tmp 6), none, [], []⟩,
 ⟨some 9, .mv (.tmp 1), none, [], []⟩,
 ⟨some 10, .len .sl (.tmp 9), none, [], []⟩,
 ⟨some 11, .bin .lss (.tmp 8) (.tmp 10), none, [], []⟩])
  (.ghost (.kill [8, 9, 10])))
  (.cond (.tmp 11) .skip
  (.exit 0)))
  (.seq (.trunc (.block 1 (.seq (.region false [
 ⟨some 14, .mv (.tmp 5), none, [], []⟩,
 ⟨some 15, .mv (.tmp 0), none, [], []⟩,
 ⟨some 16, .mv (.tmp 1), none, [], []⟩,
 ⟨some 17, .mv (.tmp 6), none, [], []⟩,
 ⟨some 18, .iaddr 1 (.tmp 16) (.tmp 17), none, [], []⟩,
 ⟨some 19, .load false 1 (.tmp 18), none, [], []⟩,
 ⟨some 20, .iaddr 5 (.tmp 15) (.tmp 19), none, [], []⟩,
 ⟨some 21, .faddr 0 (.tmp 20), none, [], []⟩,
 ⟨some 22, .load true 2 (.tmp 21), none, [], []⟩,
 ⟨some 23, .bslice 2 1 [(.int .i64 0), (.int .i64 0)] [(0, (.tmp 22))], none, [], []⟩,
 ⟨some 24, .append 2 16 (.tmp 14) (.tmp 23), none, [], []⟩,
 ⟨some 5, .mv (.tmp 24), none, [], []⟩])
  (.ghost (.kill [11, 14, 15, 16, 17, 18, 19, 20, 21, 22, 23, 24])))))
  (.seq (.region false [
 ⟨some 12, .mv (.tmp 6), none, [], []⟩,
 ⟨some 13, .bin .add (.tmp 12) (.cst (.int .i64 1)), none, [], []⟩,
 ⟨some 6, .mv (.tmp 13), none, [], []⟩])
  (.ghost (.kill [12, 13])))))
def r20_Names.main : ACode := (.seq (.seq (.region false [
 ⟨some 4, .mv (.cst .nils), none, [], []⟩])
  (.ghost (.kill [4])))
  (.seq (.seq (.region false [
 ⟨some 7, .bslice 2 0 [(.int .i64 0), (.int .i64 0)] [], none, [], []⟩,
 ⟨some 5, .mv (.tmp 7), none, [], []⟩])
  (.ghost (.kill [7])))
  (.seq (.seq (.region false [
 ⟨some 6, .mv (.cst (.int .i64 0)), none, [], []⟩])
  (.seq (.block 0 (.loop r20_Names.b0))
  r20_Names.c1))
  r20_Names.c0)))
def r20_Names.k0 : List Item := [.inBlock 0, .code r20_Names.c1, .code r20_Names.c0]
def r20_Names : AFunc := ⟨26, [.tmp 4], r20_Names.main⟩
/-- chapman/chapmanlaw20.chosen -/
def l20_chosen.c0 : ACode := (.seq (.region false [
 ⟨some 38, .mv (.tmp 5), none, [], []⟩,
 ⟨some 4, .mv (.tmp 38), none, [], []⟩])
  .ret)
def l20_chosen.c1 : ACode := (.ghost (.kill [0, 1, 6, 20]))
def l20_chosen.b0 : ACode := (.seq (.seq (.seq (.region false [
 ⟨some 8, .mv (.tmp 6), none, [], []⟩,
 ⟨some 9, .mv (.tmp 1), none, [], []⟩,
 ⟨some 10, .len .sl (.tmp 9), none, [], []⟩,
 ⟨some 11, .bin .lss (.tmp 8) (.tmp 10), none, [], []⟩,
 ⟨some 12, .mv (.tmp 11), none, [], []⟩,
 ⟨some 13, .mv (.tmp 6), (some ((some 12), true)), [], []⟩,
 ⟨some 14, .bin .lss (.tmp 13) (.cst (.int .i64 6)), (some ((some 12), true)), [], []⟩,
 ⟨some 15, .pick (.tmp 12) (.tmp 14) (.cst (.bool false)), none, [], []⟩,
 ⟨some 16, .mv (.tmp 15), none, [], []⟩,
 ⟨some 17, .mv (.tmp 0), (some ((some 16), true)), [], []⟩,
 ⟨some 18, .len .sl (.tmp 17), (some ((some 16), true)), [], []⟩,
 ⟨some 19, .bin .gtr (.tmp 18) (.cst (.int .i64 0)), (some ((some 16), true)), [], []⟩,
 ⟨some 20, .pick (.tmp 16) (.tmp 19) (.cst (.bool false)), none, [], []⟩])
  (.ghost (.kill [8, 9, 10, 11, 12, 13, 14, 15, 16, 17, 18, 19])))
  (.cond (.tmp 20) .skip
  (.exit 0)))
  (.seq (.trunc (.block 1 (.seq (.region false [
 ⟨some 23, .mv (.tmp 5), none, [], []⟩,
 ⟨some 24, .mv (.tmp 0), none, [], []⟩,
 ⟨some 25, .mv (.tmp 1), none, [], []⟩,
 ⟨some 26, .mv (.tmp 6), none, [], []⟩,
 ⟨some 27, .iaddr 1 (.tmp 25) (.tmp 26), none, [], []⟩,
 ⟨some 28, .load false 1 (.tmp 27), none, [], []⟩,
 ⟨some 29, .conv .i64 (.tmp 28), none, [], []⟩,
 ⟨some 30, .mv (.tmp 0), none, [], []⟩,
 ⟨some 31, .len .sl (.tmp 30), none, [], []⟩,
 ⟨some 32, .bin .rem (.tmp 29) (.tmp 31), none, [], []⟩,
 ⟨some 33, .iaddr 5 (.tmp 24) (.tmp 32), none, [], []⟩,
 ⟨some 34, .faddr 0 (.tmp 33), none, [], []⟩,
 ⟨some 35, .load true 2 (.tmp 34), none, [], []⟩,
 ⟨some 36, .bslice 2 1 [(.int .i64 0), (.int .i64 0)] [(0, (.tmp 35))], none, [], []⟩,
 ⟨some 37, .append 2 16 (.tmp 23) (.tmp 36), none, [], []⟩,
 ⟨some 5, .mv (.tmp 37), none, [], []⟩])
  (.ghost (.kill [20, 23, 24, 25, 26, 27, 28, 29, 30, 31, 32, 33, 34, 35, 36, 37])))))
  (.seq (.region false [
 ⟨some 21, .mv (.tmp 6), none, [], []⟩,
 ⟨some 22, .bin .add (.tmp 21) (.cst (.int .i64 1)), none, [], []⟩,
 ⟨some 6, .mv (.tmp 22), none, [], []⟩])
  (.ghost (.kill [21, 22])))))
def l20_chosen.main : ACode := (.seq (.seq (.region false [
 ⟨some 4, .mv (.cst .nils), none, [], []⟩])
  (.ghost (.kill [4])))
  (.seq (.seq (.region false [
 ⟨some 7, .bslice 2 0 [(.int .i64 0), (.int .i64 0)] [], none, [], []⟩,
 ⟨some 5, .mv (.tmp 7), none, [], []⟩])
  (.ghost (.kill [7])))
  (.seq (.seq (.region false [
 ⟨some 6, .mv (.cst (.int .i64 0)), none, [], []⟩])
  (.seq (.block 0 (.loop l20_chosen.b0))
  l20_chosen.c1))
  l20_chosen.c0)))
def l20_chosen.k0 : List Item := [.inBlock 0, .code l20_chosen.c1, .code l20_chosen.c0]
def l20_chosen : AFunc := ⟨39, [.tmp 4], l20_chosen.main⟩
/-- chapman/chapmanref20.Zero -/
def r20_Zero.main : ACode := (.seq (.seq (.region false [
 ⟨some 0, .mv (.cst .nils), none, [], []⟩])
  (.ghost (.kill [0])))
  (.seq (.region false [
 ⟨some 1, .mkslice 1 8 [(.int .i64 0)] (.cst (.int .i64 6)) (.cst (.int .i64 6)), none, [], []⟩,
 ⟨some 0, .mv (.tmp 1), none, [], []⟩])
  .ret))
def r20_Zero : AFunc := ⟨2, [.tmp 0], r20_Zero.main⟩
/-- chapman/chapmanref20.Own -/
def r20_Own.main : ACode := (.seq (.seq (.region false [
 ⟨some 1, .box 5 (.tmp 0), none, [], []⟩,
 ⟨some 2, .mv (.cst .nils), none, [], []⟩])
  (.ghost (.kill [0, 2])))
  (.seq (.seq (.region false [
 ⟨some 4, .bslice 1 0 [(.int .i64 0)] [], none, [], []⟩,
 ⟨some 5, .faddr 2 (.tmp 1), none, [], []⟩,
 ⟨some 6, .load false 1 (.tmp 5), none, [], []⟩,
 ⟨some 7, .append 1 8 (.tmp 4) (.tmp 6), none, [], []⟩,
 ⟨some 3, .mv (.tmp 7), none, [], []⟩])
  (.ghost (.kill [4, 5, 6, 7])))
  (.seq (.seq (.region false [
 ⟨some 8, .mv (.tmp 3), none, [], []⟩,
 ⟨some 9, .faddr 0 (.tmp 1), none, [], []⟩,
 ⟨some 10, .faddr 0 (.tmp 9), none, [], []⟩,
 ⟨some 11, .load false 1 (.tmp 10), none, [], []⟩,
 ⟨some 12, .faddr 0 (.tmp 1), none, [], []⟩,
 ⟨some 13, .faddr 1 (.tmp 12), none, [], []⟩,
 ⟨some 14, .load false 1 (.tmp 13), none, [], []⟩,
 ⟨some 15, .iaddr 1 (.tmp 8) (.tmp 11), none, [], []⟩,
 ⟨none, .store 1 (.tmp 15) (.tmp 14), none, [], []⟩])
  (.ghost (.kill [1, 8, 9, 10, 11, 12, 13, 14, 15])))
  (.seq (.region false [
 ⟨some 16, .mv (.tmp 3), none, [], []⟩,
 ⟨some 2, .mv (.tmp 16), none, [], []⟩])
  .ret))))
def r20_Own : AFunc := ⟨17, [.tmp 2], r20_Own.main⟩
/-- slices.ContainsFunc[[]int,int] -/
def slices_ContainsFunc_int.main : ACode := (.seq (.seq (.region false [
 ⟨some 4, .mv (.cst (.bool false)), none, [], []⟩])
  (.ghost (.kill [4])))
  (.seq (.region false [
 ⟨some 5, .mv (.tmp 0), none, [], []⟩,
 ⟨some 6, .mv (.tmp 1), none, [], []⟩,
 ⟨some 7, .call true i_slices_IndexFunc_int [(.tmp 5), (.tmp 6)], none, [], []⟩,
 ⟨some 8, .bin .geq (.tmp 7) (.cst (.int .i64 0)), none, [], []⟩,
 ⟨some 4, .mv (.tmp 8), none, [], []⟩])
  .ret))
def slices_ContainsFunc_int : AFunc := ⟨9, [.tmp 4], slices_ContainsFunc_int.main⟩
/-- chapman/cut.Valid$1 -/
def cut_Valid_1.main : ACode := (.seq (.seq (.region false [
 ⟨some 2, .mv (.cst (.bool false)), none, [], []⟩])
  (.ghost (.kill [2])))
  (.seq (.region false [
 ⟨some 3, .mv (.tmp 0), none, [], []⟩,
 ⟨some 4, .bin .lss (.tmp 3) (.cst (.int .i64 0)), none, [], []⟩,
 ⟨some 5, .mv (.tmp 4), none, [], []⟩,
 ⟨some 6, .mv (.tmp 0), (some ((some 5), false)), [], []⟩,
 ⟨some 7, .bin .gtr (.tmp 6) (.cst (.int .i64 999)), (some ((some 5), false)), [], []⟩,
 ⟨some 8, .pick (.tmp 5) (.cst (.bool true)) (.tmp 7), none, [], []⟩,
 ⟨some 2, .mv (.tmp 8), none, [], []⟩])
  .ret))
def cut_Valid_1 : AFunc := ⟨9, [.tmp 2], cut_Valid_1.main⟩
/-- chapman/cut.Join -/
def cut_Join.main : ACode := (.seq (.seq (.region false [
 ⟨some 4, .mv (.cst .nils), none, [], []⟩,
 ⟨some 5, .mv (.cst (.int .i64 0)), none, [], []⟩])
  (.ghost (.kill [4, 5])))
  (.seq (.region false [
 ⟨some 6, .mv (.tmp 0), none, [], []⟩,
 ⟨some 7, .mv (.tmp 1), none, [], []⟩,
 ⟨some 8, .call true i_cut_merge [(.tmp 6), (.tmp 7), (.cst (.clo (.func i_cut_Join_1) [] []))], none, [], []⟩,
 ⟨some 9, .extr (.tmp 8) 0, none, [], []⟩,
 ⟨some 10, .extr (.tmp 8) 1, none, [], []⟩,
 ⟨some 4, .mv (.tmp 9), none, [], []⟩,
 ⟨some 5, .mv (.tmp 10), none, [], []⟩])
  .ret))
def cut_Join : AFunc := ⟨11, [.tmp 4, .tmp 5], cut_Join.main⟩
/-- chapman/cut.Meet -/
def cut_Meet.main : ACode := (.seq (.seq (.region false [
 ⟨some 4, .mv (.cst .nils), none, [], []⟩,
 ⟨some 5, .mv (.cst (.int .i64 0)), none, [], []⟩])
  (.ghost (.kill [4, 5])))
  (.seq (.region false [
 ⟨some 6, .mv (.tmp 0), none, [], []⟩,
 ⟨some 7, .mv (.tmp 1), none, [], []⟩,
 ⟨some 8, .call true i_cut_merge [(.tmp 6), (.tmp 7), (.cst (.clo (.func i_cut_Meet_1) [] []))], none, [], []⟩,
 ⟨some 9, .extr (.tmp 8) 0, none, [], []⟩,
 ⟨some 10, .extr (.tmp 8) 1, none, [], []⟩,
 ⟨some 4, .mv (.tmp 9), none, [], []⟩,
 ⟨some 5, .mv (.tmp 10), none, [], []⟩])
  .ret))
def cut_Meet : AFunc := ⟨11, [.tmp 4, .tmp 5], cut_Meet.main⟩
/-- chapman/cut.indices -/
def cut_indices.c0 : ACode := (.seq (.region false [
 ⟨some 30, .mv (.tmp 3), none, [], []⟩,
 ⟨some 2, .mv (.tmp 30), none, [], []⟩])
  .ret)
def cut_indices.c1 : ACode := (.ghost (.kill [9, 10, 11, 12]))
def cut_indices.c2 : ACode := (.seq (.region false [
 ⟨some 29, .bin .add (.tmp 11) (.cst (.int .i64 1)), none, [], []⟩,
 ⟨some 11, .mv (.tmp 29), none, [], []⟩])
  (.ghost (.kill [29])))
def cut_indices.b0 : ACode := (.seq (.region false [
 ⟨some 12, .bin .lss (.tmp 11) (.tmp 10), none, [], []⟩])
  (.seq (.cond (.tmp 12) .skip
  (.exit 0))
  (.seq (.trunc (.block 1 (.seq (.seq (.region false [
 ⟨some 13, .mv (.tmp 11), none, [], []⟩,
 ⟨some 14, .iaddr 5 (.tmp 9) (.tmp 11), none, [], []⟩,
 ⟨some 15, .load true 5 (.tmp 14), none, [], []⟩,
 ⟨some 5, .alloc [(.int .i64 0), (.int .i64 0), .nils, (.int .i64 0), .nils], none, [], []⟩,
 ⟨some 4, .mv (.tmp 13), none, [], []⟩,
 ⟨none, .store 5 (.tmp 5) (.tmp 15), none, [], []⟩])
  (.ghost (.kill [12, 13, 14, 15])))
  (.seq (.seq (.region false [
 ⟨some 17, .mv (.tmp 3), none, [], []⟩,
 ⟨some 18, .faddr 0 (.tmp 5), none, [], []⟩,
 ⟨some 19, .load true 2 (.tmp 18), none, [], []⟩,
 ⟨some 20, .lookup (.row [(0, 1, false, (.int .i64)), (1, 1, false, (.int .i64))]) (.int .i64 0) true (.tmp 17) (.tmp 19), none, [], []⟩,
 ⟨some 16, .mv (.tmp 20), none, [], []⟩,
 ⟨some 21, .extr (.tmp 16) 0, none, [], []⟩,
 ⟨some 22, .extr (.tmp 16) 1, none, [], []⟩,
 ⟨some 6, .mv (.tmp 21), none, [], []⟩,
 ⟨some 7, .mv (.tmp 22), none, [], []⟩])
  (.ghost (.kill [6, 16, 17, 18, 19, 20, 21, 22])))
  (.seq (.seq (.region false [
 ⟨some 23, .mv (.tmp 7), none, [], []⟩,
 ⟨some 24, .un .not (.tmp 23), none, [], []⟩])
  (.ghost (.kill [7, 23])))
  (.seq (.cond (.tmp 24) (.seq (.region false [
      ⟨some 25, .mv (.tmp 3), none, [], []⟩,
      ⟨some 26, .faddr 0 (.tmp 5), none, [], []⟩,
      ⟨some 27, .load true 2 (.tmp 26), none, [], []⟩,
      ⟨some 28, .mv (.tmp 4), none, [], []⟩,
      ⟨none, .mapup (.row [(0, 1, false, (.int .i64)), (1, 1, false, (.int .i64))]) (.tmp 25) (.tmp 27) (.tmp 28), none, [], []⟩])
    (.ghost (.kill [4, 5, 24, 25, 26, 27, 28])))
  .skip)
  (.ghost (.kill [4, 5, 24]))))))))
  cut_indices.c2)))
def cut_indices.main : ACode := (.seq (.seq (.region false [
 ⟨some 2, .mv (.cst .nilm), none, [], []⟩])
  (.ghost (.kill [2])))
  (.seq (.seq (.region false [
 ⟨some 8, .mkmap, none, [], []⟩,
 ⟨some 3, .mv (.tmp 8), none, [], []⟩])
  (.ghost (.kill [8])))
  (.seq (.seq (.seq (.region false [
 ⟨some 9, .mv (.tmp 0), none, [], []⟩,
 ⟨some 10, .len .sl (.tmp 9), none, [], []⟩,
 ⟨some 11, .mv (.cst (.int .i64 0)), none, [], []⟩])
  (.ghost (.kill [0])))
  (.seq (.block 0 (.loop cut_indices.b0))
  cut_indices.c1))
  cut_indices.c0)))
def cut_indices.k0 : List Item := [.inBlock 0, .code cut_indices.c1, .code cut_indices.c0]
def cut_indices : AFunc := ⟨31, [.tmp 2], cut_indices.main⟩
/-- slices.ContainsFunc[[]chapman/api.Commit,chapman/api.Commit] -/
def slices_ContainsFunc_Commit.main : ACode := (.seq (.seq (.region false [
 ⟨some 4, .mv (.cst (.bool false)), none, [], []⟩])
  (.ghost (.kill [4])))
  (.seq (.region false [
 ⟨some 5, .mv (.tmp 0), none, [], []⟩,
 ⟨some 6, .mv (.tmp 1), none, [], []⟩,
 ⟨some 7, .call true i_slices_IndexFunc_Commit [(.tmp 5), (.tmp 6)], none, [], []⟩,
 ⟨some 8, .bin .geq (.tmp 7) (.cst (.int .i64 0)), none, [], []⟩,
 ⟨some 4, .mv (.tmp 8), none, [], []⟩])
  .ret))
def slices_ContainsFunc_Commit : AFunc := ⟨9, [.tmp 4], slices_ContainsFunc_Commit.main⟩
/-- chapman/cut.Consistent$1 -/
def cut_Consistent_1.main : ACode := (.seq (.seq (.region false [
 ⟨some 1, .box 5 (.tmp 0), none, [], []⟩,
 ⟨some 2, .mv (.cst (.bool false)), none, [], []⟩])
  (.ghost (.kill [0, 2])))
  (.seq (.region false [
 ⟨some 3, .load true 5 (.tmp 1), none, [], []⟩,
 ⟨some 4, .call true i_cut_WellFormed [(.tmp 3)], none, [], []⟩,
 ⟨some 5, .un .not (.tmp 4), none, [], []⟩,
 ⟨some 2, .mv (.tmp 5), none, [], []⟩])
  .ret))
def cut_Consistent_1 : AFunc := ⟨6, [.tmp 2], cut_Consistent_1.main⟩
/-- chapman/chapmanref20.Find -/
def r20_Find.c0 : ACode := (.seq (.region false [
 ⟨some 4, .mv (.cst (.int .i64 (-1))), none, [], []⟩])
  .ret)
def r20_Find.b0 : ACode := (.seq (.seq (.seq (.region false [
 ⟨some 6, .mv (.tmp 5), none, [], []⟩,
 ⟨some 7, .mv (.tmp 0), none, [], []⟩,
 ⟨some 8, .len .sl (.tmp 7), none, [], []⟩,
 ⟨some 9, .bin .lss (.tmp 6) (.tmp 8), none, [], []⟩])
  (.ghost (.kill [6, 7, 8])))
  (.cond (.tmp 9) .skip
  (.exit 0)))
  (.seq (.seq (.block 1 (.seq (.seq (.region true [
 ⟨some 12, .mv (.tmp 0), none, [], [0]⟩,
 ⟨some 13, .mv (.tmp 5), none, [], [5]⟩,
 ⟨some 14, .iaddr 5 (.tmp 12) (.tmp 13), none, [0, 1], [12, 13]⟩,
 ⟨some 15, .faddr 0 (.tmp 14), none, [2], [14]⟩,
 ⟨some 16, .load true 2 (.tmp 15), none, [3], [15]⟩,
 ⟨some 17, .load true 2 (.tmp 3), none, [], [3]⟩,
 ⟨some 18, .eqs false (.row [(0, 1, false, (.int .i64)), (1, 1, false, (.int .i64))]) (.tmp 16) (.tmp 17), none, [4, 5], [16, 17]⟩])
  (.ghost (.kill [9, 12, 13, 14, 15, 16, 17])))
  (.cond (.tmp 18) (.seq (.region false [
      ⟨some 19, .mv (.tmp 5), none, [], []⟩,
      ⟨some 4, .mv (.tmp 19), none, [], []⟩])
    .ret)
  .skip)))
  (.ghost (.kill [18])))
  (.seq (.region false [
 ⟨some 10, .mv (.tmp 5), none, [], []⟩,
 ⟨some 11, .bin .add (.tmp 10) (.cst (.int .i64 1)), none, [], []⟩,
 ⟨some 5, .mv (.tmp 11), none, [], []⟩])
  (.ghost (.kill [10, 11])))))
def r20_Find.main : ACode := (.seq (.seq (.region false [
 ⟨some 3, .box 2 (.tmp 1), none, [], []⟩,
 ⟨some 4, .mv (.cst (.int .i64 0)), none, [], []⟩])
  (.ghost (.kill [1, 4])))
  (.seq (.seq (.region false [
 ⟨some 5, .mv (.cst (.int .i64 0)), none, [], []⟩])
  (.seq (.block 0 (.loop r20_Find.b0))
  (.ghost (.kill [0, 3, 5, 9]))))
  r20_Find.c0))
def r20_Find.k0 : List Item := [.inBlock 0, .code (.ghost (.kill [0, 3, 5, 9])), .code r20_Find.c0]
def r20_Find : AFunc := ⟨20, [.tmp 4], r20_Find.main⟩
/-- chapman/chapmanref20.known -/
def r20_known.c0 : ACode := (.seq (.region false [
 ⟨some 4, .mv (.cst (.bool true)), none, [], []⟩])
  .ret)
def r20_known.c1 : ACode := (.ghost (.kill [0, 1, 5, 10]))
def r20_known.b0 : ACode := (.seq (.seq (.seq (.region false [
 ⟨some 7, .mv (.tmp 5), none, [], []⟩,
 ⟨some 8, .mv (.tmp 1), none, [], []⟩,
 ⟨some 9, .len .sl (.tmp 8), none, [], []⟩,
 ⟨some 10, .bin .lss (.tmp 7) (.tmp 9), none, [], []⟩])
  (.ghost (.kill [7, 8, 9])))
  (.cond (.tmp 10) .skip
  (.exit 0)))
  (.seq (.seq (.block 1 (.seq (.seq (.seq (.region false [
 ⟨some 13, .mv (.tmp 1), none, [], []⟩,
 ⟨some 14, .mv (.tmp 5), none, [], []⟩,
 ⟨some 15, .iaddr 1 (.tmp 13) (.tmp 14), none, [], []⟩,
 ⟨some 16, .load false 1 (.tmp 15), none, [], []⟩,
 ⟨some 17, .bin .eql (.tmp 16) (.cst (.int .i64 0)), none, [], []⟩])
  (.ghost (.kill [10, 13, 14, 15, 16])))
  (.cond (.tmp 17) (.exit 1)
  .skip))
  (.seq (.seq (.region false [
 ⟨some 18, .mv (.tmp 0), none, [], []⟩,
 ⟨some 19, .mv (.tmp 5), none, [], []⟩,
 ⟨some 20, .mv (.tmp 1), none, [], []⟩,
 ⟨some 21, .mv (.tmp 5), none, [], []⟩,
 ⟨some 22, .iaddr 1 (.tmp 20) (.tmp 21), none, [], []⟩,
 ⟨some 23, .load false 1 (.tmp 22), none, [], []⟩,
 ⟨some 24, .build [(.int .i64 0), (.int .i64 0)] [(0, 1, (.tmp 19)), (1, 1, (.tmp 23))], none, [], []⟩,
 ⟨some 25, .call true i_r20_Find [(.tmp 18), (.tmp 24)], none, [], []⟩,
 ⟨some 6, .mv (.tmp 25), none, [], []⟩])
  (.ghost (.kill [17, 18, 19, 20, 21, 22, 23, 24, 25])))
  (.seq (.seq (.region false [
 ⟨some 26, .mv (.tmp 6), none, [], []⟩,
 ⟨some 27, .bin .lss (.tmp 26) (.cst (.int .i64 0)), none, [], []⟩,
 ⟨some 28, .mv (.tmp 27), none, [], []⟩,
 ⟨some 29, .mv (.tmp 0), (some ((some 28), false)), [], []⟩,
 ⟨some 30, .mv (.tmp 6), (some ((some 28), false)), [], []⟩,
 ⟨some 31, .iaddr 5 (.tmp 29) (.tmp 30), (some ((some 28), false)), [], []⟩,
 ⟨some 32, .faddr 2 (.tmp 31), (some ((some 28), false)), [], []⟩,
 ⟨some 33, .load false 1 (.tmp 32), (some ((some 28), false)), [], []⟩,
 ⟨some 34, .mv (.tmp 1), (some ((some 28), false)), [], []⟩,
 ⟨some 35, .call true i_r20_Leq [(.tmp 33), (.tmp 34)], (some ((some 28), false)), [], []⟩,
 ⟨some 36, .un .not (.tmp 35), (some ((some 28), false)), [], []⟩,
 ⟨some 37, .pick (.tmp 28) (.cst (.bool true)) (.tmp 36), none, [], []⟩])
  (.ghost (.kill [6, 26, 27, 28, 29, 30, 31, 32, 33, 34, 35, 36])))
  (.cond (.tmp 37) (.seq (.region false [
      ⟨some 4, .mv (.cst (.bool false)), none, [], []⟩])
    .ret)
  .skip)))))
  (.ghost (.kill [17, 37])))
  (.seq (.region false [
 ⟨some 11, .mv (.tmp 5), none, [], []⟩,
 ⟨some 12, .bin .add (.tmp 11) (.cst (.int .i64 1)), none, [], []⟩,
 ⟨some 5, .mv (.tmp 12), none, [], []⟩])
  (.ghost (.kill [11, 12])))))
def r20_known.main : ACode := (.seq (.seq (.region false [
 ⟨some 4, .mv (.cst (.bool false)), none, [], []⟩])
  (.ghost (.kill [4])))
  (.seq (.seq (.region false [
 ⟨some 5, .mv (.cst (.int .i64 0)), none, [], []⟩])
  (.seq (.block 0 (.loop r20_known.b0))
  r20_known.c1))
  r20_known.c0))
def r20_known.k0 : List Item := [.inBlock 0, .code r20_known.c1, .code r20_known.c0]
def r20_known : AFunc := ⟨38, [.tmp 4], r20_known.main⟩
/-- chapman/cut.Order -/
def cut_Order.c0 : ACode := (.seq (.seq (.region false [
 ⟨some 39, .mv (.tmp 7), none, [], []⟩,
 ⟨some 40, .mkfn (.func i_cut_Order_1) [] [(.tmp 2)], none, [], []⟩,
 ⟨some 41, .call false i_slices_SortFunc_int [(.tmp 39), (.tmp 40)], none, [], []⟩])
  (.ghost (.kill [2, 39, 40, 41])))
  (.seq (.region false [
 ⟨some 42, .mv (.tmp 7), none, [], []⟩,
 ⟨some 4, .mv (.tmp 42), none, [], []⟩,
 ⟨some 5, .mv (.cst (.int .i64 0)), none, [], []⟩])
  .ret))
def cut_Order.c1 : ACode := (.ghost (.kill [6, 17, 18, 19, 20]))
def cut_Order.c2 : ACode := (.seq (.region false [
 ⟨some 38, .bin .add (.tmp 19) (.cst (.int .i64 1)), none, [], []⟩,
 ⟨some 19, .mv (.tmp 38), none, [], []⟩])
  (.ghost (.kill [38])))
def cut_Order.c3 : ACode := (.ghost (.kill [8, 24, 25, 26]))
def cut_Order.b1 : ACode := (.seq (.region false [
 ⟨some 26, .bin .lss (.tmp 25) (.tmp 24), none, [], []⟩])
  (.seq (.cond (.tmp 26) .skip
  (.exit 2))
  (.seq (.trunc (.block 3 (.seq (.seq (.region false [
 ⟨some 27, .mv (.tmp 25), none, [], []⟩,
 ⟨some 10, .mv (.tmp 27), none, [], []⟩])
  (.ghost (.kill [26, 27])))
  (.seq (.region false [
 ⟨some 28, .mv (.tmp 7), none, [], []⟩,
 ⟨some 29, .mv (.tmp 6), none, [], []⟩,
 ⟨some 30, .mv (.tmp 8), none, [], []⟩,
 ⟨some 31, .mv (.tmp 10), none, [], []⟩,
 ⟨some 32, .bin .add (.tmp 31) (.cst (.int .i64 1)), none, [], []⟩,
 ⟨some 33, .build [(.int .i64 0), (.int .i64 0)] [(0, 1, (.tmp 30)), (1, 1, (.tmp 32))], none, [], []⟩,
 ⟨some 34, .lookup (.row [(0, 1, false, (.int .i64)), (1, 1, false, (.int .i64))]) (.int .i64 0) false (.tmp 29) (.tmp 33), none, [], []⟩,
 ⟨some 35, .bslice 1 1 [(.int .i64 0)] [(0, (.tmp 34))], none, [], []⟩,
 ⟨some 36, .append 1 8 (.tmp 28) (.tmp 35), none, [], []⟩,
 ⟨some 7, .mv (.tmp 36), none, [], []⟩])
  (.ghost (.kill [10, 28, 29, 30, 31, 32, 33, 34, 35, 36]))))))
  (.seq (.region false [
 ⟨some 37, .bin .add (.tmp 25) (.cst (.int .i64 1)), none, [], []⟩,
 ⟨some 25, .mv (.tmp 37), none, [], []⟩])
  (.ghost (.kill [37]))))))
def cut_Order.b0 : ACode := (.seq (.region false [
 ⟨some 20, .bin .lss (.tmp 19) (.tmp 18), none, [], []⟩])
  (.seq (.cond (.tmp 20) .skip
  (.exit 0))
  (.seq (.trunc (.block 1 (.seq (.seq (.region false [
 ⟨some 21, .mv (.tmp 19), none, [], []⟩,
 ⟨some 22, .iaddr 1 (.tmp 17) (.tmp 19), none, [], []⟩,
 ⟨some 23, .load false 1 (.tmp 22), none, [], []⟩,
 ⟨some 8, .mv (.tmp 21), none, [], []⟩,
 ⟨some 9, .mv (.tmp 23), none, [], []⟩])
  (.ghost (.kill [20, 21, 22, 23])))
  (.seq (.seq (.region false [
 ⟨some 24, .mv (.tmp 9), none, [], []⟩,
 ⟨some 25, .mv (.cst (.int .i64 0)), none, [], []⟩])
  (.ghost (.kill [9])))
  (.seq (.block 2 (.loop cut_Order.b1))
  cut_Order.c3)))))
  cut_Order.c2)))
def cut_Order.main : ACode := (.seq (.seq (.region false [
 ⟨some 2, .box 1 (.tmp 0), none, [], []⟩,
 ⟨some 4, .mv (.cst .nils), none, [], []⟩,
 ⟨some 5, .mv (.cst (.int .i64 0)), none, [], []⟩])
  (.ghost (.kill [0, 4, 5])))
  (.seq (.seq (.seq (.region false [
 ⟨some 11, .load false 1 (.tmp 2), none, [], []⟩,
 ⟨some 12, .mv (.tmp 1), none, [], []⟩,
 ⟨some 13, .call true i_cut_Closed [(.tmp 11), (.tmp 12)], none, [], []⟩,
 ⟨some 14, .un .not (.tmp 13), none, [], []⟩])
  (.ghost (.kill [11, 12, 13])))
  (.cond (.tmp 14) (.seq (.region false [
      ⟨some 4, .mv (.cst .nils), none, [], []⟩,
      ⟨some 5, .mv (.cst (.int .i64 200)), none, [], []⟩])
    .ret)
  .skip))
  (.seq (.seq (.region false [
 ⟨some 15, .load false 1 (.tmp 2), none, [], []⟩,
 ⟨some 16, .call true i_cut_indices [(.tmp 15)], none, [], []⟩,
 ⟨some 6, .mv (.tmp 16), none, [], []⟩])
  (.ghost (.kill [14, 15, 16])))
  (.seq (.seq (.region false [
 ⟨some 7, .mv (.cst .nils), none, [], []⟩])
  (.ghost (.nilref 7 1)))
  (.seq (.seq (.seq (.region false [
 ⟨some 17, .mv (.tmp 1), none, [], []⟩,
 ⟨some 18, .len .sl (.tmp 17), none, [], []⟩,
 ⟨some 19, .mv (.cst (.int .i64 0)), none, [], []⟩])
  (.ghost (.kill [1])))
  (.seq (.block 0 (.loop cut_Order.b0))
  cut_Order.c1))
  cut_Order.c0)))))
def cut_Order.k1 (m0 : Nat) : List Item := [.inBlock 2, .code cut_Order.c3, .inBlock 1, .inTrunc m0, .code cut_Order.c2, .inLoop cut_Order.b0, .inBlock 0, .code cut_Order.c1, .code cut_Order.c0]
def cut_Order.k0 : List Item := [.inBlock 0, .code cut_Order.c1, .code cut_Order.c0]
def cut_Order : AFunc := ⟨43, [.tmp 4, .tmp 5], cut_Order.main⟩
/-- slices.Clone[[]int,int] -/
def slices_Clone_int.main : ACode := (.seq (.seq (.region false [
 ⟨some 2, .mv (.cst .nils), none, [], []⟩])
  (.ghost (.kill [2])))
  (.seq (.seq (.seq (.region false [
 ⟨some 3, .mv (.tmp 0), none, [], []⟩,
 ⟨some 4, .eqnil false .sl (.tmp 3), none, [], []⟩])
  (.ghost (.kill [3])))
  (.cond (.tmp 4) (.seq (.region false [
      ⟨some 2, .mv (.cst .nils), none, [], []⟩])
    .ret)
  .skip))
  (.seq (.region false [
 ⟨some 5, .bslice 1 0 [(.int .i64 0)] [], none, [], []⟩,
 ⟨some 6, .mv (.tmp 0), none, [], []⟩,
 ⟨some 7, .append 1 8 (.tmp 5) (.tmp 6), none, [], []⟩,
 ⟨some 2, .mv (.tmp 7), none, [], []⟩])
  .ret)))
def slices_Clone_int : AFunc := ⟨8, [.tmp 2], slices_Clone_int.main⟩
/-- chapman/cut.reach -/
def cut_reach.c0 : ACode := (.ghost (.kill [0, 1, 4, 12]))
def cut_reach.c1 : ACode := (.seq (.region false [
 ⟨some 57, .bin .add (.tmp 13) (.cst (.int .i64 1)), none, [], []⟩,
 ⟨some 13, .mv (.tmp 57), none, [], []⟩])
  (.ghost (.kill [57])))
def cut_reach.c2 : ACode := (.ghost (.kill [6, 19, 20, 21]))
def cut_reach.b2 : ACode := (.seq (.region false [
 ⟨some 21, .bin .lss (.tmp 20) (.tmp 19), none, [], []⟩])
  (.seq (.cond (.tmp 21) .skip
  (.exit 4))
  (.seq (.seq (.block 5 (.seq (.seq (.region false [
 ⟨some 22, .mv (.tmp 20), none, [], []⟩,
 ⟨some 7, .mv (.tmp 22), none, [], []⟩])
  (.ghost (.kill [21, 22])))
  (.seq (.seq (.region false [
 ⟨some 24, .mv (.tmp 4), none, [], []⟩,
 ⟨some 25, .mv (.tmp 6), none, [], []⟩,
 ⟨some 26, .mv (.tmp 7), none, [], []⟩,
 ⟨some 27, .bin .add (.tmp 26) (.cst (.int .i64 1)), none, [], []⟩,
 ⟨some 28, .build [(.int .i64 0), (.int .i64 0)] [(0, 1, (.tmp 25)), (1, 1, (.tmp 27))], none, [], []⟩,
 ⟨some 29, .lookup (.row [(0, 1, false, (.int .i64)), (1, 1, false, (.int .i64))]) (.int .i64 0) true (.tmp 24) (.tmp 28), none, [], []⟩,
 ⟨some 23, .mv (.tmp 29), none, [], []⟩,
 ⟨some 30, .extr (.tmp 23) 0, none, [], []⟩,
 ⟨some 31, .extr (.tmp 23) 1, none, [], []⟩,
 ⟨some 8, .mv (.tmp 30), none, [], []⟩,
 ⟨some 9, .mv (.tmp 31), none, [], []⟩])
  (.ghost (.kill [23, 24, 25, 26, 27, 28, 29, 30, 31])))
  (.seq (.seq (.region false [
 ⟨some 32, .mv (.tmp 9), none, [], []⟩,
 ⟨some 33, .un .not (.tmp 32), none, [], []⟩,
 ⟨some 34, .mv (.tmp 33), none, [], []⟩,
 ⟨some 35, .mv (.tmp 0), (some ((some 34), false)), [], []⟩,
 ⟨some 36, .mv (.tmp 8), (some ((some 34), false)), [], []⟩,
 ⟨some 37, .iaddr 5 (.tmp 35) (.tmp 36), (some ((some 34), false)), [], []⟩,
 ⟨some 38, .load true 5 (.tmp 37), (some ((some 34), false)), [], []⟩,
 ⟨some 39, .call true i_cut_WellFormed [(.tmp 38)], (some ((some 34), false)), [], []⟩,
 ⟨some 40, .un .not (.tmp 39), (some ((some 34), false)), [], []⟩,
 ⟨some 41, .pick (.tmp 34) (.cst (.bool true)) (.tmp 40), none, [], []⟩,
 ⟨some 42, .mv (.tmp 41), none, [], []⟩,
 ⟨some 43, .mv (.tmp 0), (some ((some 42), false)), [], []⟩,
 ⟨some 44, .mv (.tmp 8), (some ((some 42), false)), [], []⟩,
 ⟨some 45, .iaddr 5 (.tmp 43) (.tmp 44), (some ((some 42), false)), [], []⟩,
 ⟨some 46, .faddr 2 (.tmp 45), (some ((some 42), false)), [], []⟩,
 ⟨some 47, .load false 1 (.tmp 46), (some ((some 42), false)), [], []⟩,
 ⟨some 48, .mv (.tmp 1), (some ((some 42), false)), [], []⟩,
 ⟨some 49, .call true i_cut_Leq [(.tmp 47), (.tmp 48)], (some ((some 42), false)), [], []⟩,
 ⟨some 50, .un .not (.tmp 49), (some ((some 42), false)), [], []⟩,
 ⟨some 51, .pick (.tmp 42) (.cst (.bool true)) (.tmp 50), none, [], []⟩])
  (.ghost (.kill [8, 9, 32, 33, 34, 35, 36, 37, 38, 39, 40, 41, 42, 43, 44, 45, 46, 47, 48, 49, 50])))
  (.cond (.tmp 51) (.seq (.seq (.region false [
      ⟨some 52, .mv (.tmp 1), none, [], []⟩,
      ⟨some 53, .mv (.tmp 6), none, [], []⟩,
      ⟨some 54, .mv (.tmp 7), none, [], []⟩,
      ⟨some 55, .iaddr 1 (.tmp 52) (.tmp 53), none, [], []⟩,
      ⟨none, .store 1 (.tmp 55) (.tmp 54), none, [], []⟩,
      ⟨some 5, .mv (.cst (.bool true)), none, [], []⟩])
    (.ghost (.kill [6, 7, 13, 19, 20, 51, 52, 53, 54, 55])))
    (.exit 1))
  .skip)))))
  (.ghost (.kill [7, 51])))
  (.seq (.region false [
 ⟨some 56, .bin .add (.tmp 20) (.cst (.int .i64 1)), none, [], []⟩,
 ⟨some 20, .mv (.tmp 56), none, [], []⟩])
  (.ghost (.kill [56]))))))
def cut_reach.b1 : ACode := (.seq (.region false [
 ⟨some 14, .bin .lss (.tmp 13) (.cst (.int .i64 6)), none, [], []⟩])
  (.seq (.cond (.tmp 14) .skip
  (.exit 2))
  (.seq (.block 3 (.seq (.seq (.region false [
 ⟨some 15, .mv (.tmp 13), none, [], []⟩,
 ⟨some 6, .mv (.tmp 15), none, [], []⟩])
  (.ghost (.kill [14, 15])))
  (.seq (.seq (.region false [
 ⟨some 16, .mv (.tmp 1), none, [], []⟩,
 ⟨some 17, .mv (.tmp 6), none, [], []⟩,
 ⟨some 18, .iaddr 1 (.tmp 16) (.tmp 17), none, [], []⟩,
 ⟨some 19, .load false 1 (.tmp 18), none, [], []⟩,
 ⟨some 20, .mv (.cst (.int .i64 0)), none, [], []⟩])
  (.ghost (.kill [16, 17, 18])))
  (.seq (.block 4 (.loop cut_reach.b2))
  cut_reach.c2))))
  cut_reach.c1)))
def cut_reach.b0 : ACode := (.seq (.seq (.seq (.region false [
 ⟨some 12, .mv (.tmp 5), none, [], []⟩])
  (.ghost (.kill [5])))
  (.cond (.tmp 12) .skip
  (.exit 0)))
  (.block 1 (.seq (.seq (.region false [
 ⟨some 5, .mv (.cst (.bool false)), none, [], []⟩])
  (.ghost (.kill [12])))
  (.seq (.region false [
 ⟨some 13, .mv (.cst (.int .i64 0)), none, [], []⟩])
  (.seq (.block 2 (.loop cut_reach.b1))
  (.ghost (.kill [13, 14])))))))
def cut_reach.main : ACode := (.scope (.seq (.seq (.region false [
 ⟨some 10, .mv (.tmp 0), none, [], []⟩,
 ⟨some 11, .call true i_cut_indices [(.tmp 10)], none, [], []⟩,
 ⟨some 4, .mv (.tmp 11), none, [], []⟩])
  (.ghost (.kill [10, 11])))
  (.seq (.region false [
 ⟨some 5, .mv (.cst (.bool true)), none, [], []⟩])
  (.seq .skip
  (.seq (.block 0 (.loop cut_reach.b0))
  cut_reach.c0)))))
def cut_reach.k2 : List Item := [.inBlock 4, .code cut_reach.c2, .inBlock 3, .code cut_reach.c1, .inLoop cut_reach.b1, .inBlock 2, .code (.ghost (.kill [13, 14])), .inBlock 1, .inLoop cut_reach.b0, .inBlock 0, .code cut_reach.c0]
def cut_reach.k1 : List Item := [.inBlock 2, .code (.ghost (.kill [13, 14])), .inBlock 1, .inLoop cut_reach.b0, .inBlock 0, .code cut_reach.c0]
def cut_reach.k0 : List Item := [.inBlock 0, .code cut_reach.c0]
def cut_reach : AFunc := ⟨58, [], cut_reach.main⟩
/-- slices.Equal[[]int,int] -/
def slices_Equal_int.c0 : ACode := (.seq (.region false [
 ⟨some 4, .mv (.cst (.bool true)), none, [], []⟩])
  .ret)
def slices_Equal_int.c1 : ACode := (.ghost (.kill [0, 1, 12, 13, 14]))
def slices_Equal_int.b0 : ACode := (.seq (.region false [
 ⟨some 14, .bin .lss (.tmp 13) (.tmp 12), none, [], []⟩])
  (.seq (.cond (.tmp 14) .skip
  (.exit 0))
  (.seq (.seq (.block 1 (.seq (.seq (.region false [
 ⟨some 15, .mv (.tmp 13), none, [], []⟩,
 ⟨some 5, .mv (.tmp 15), none, [], []⟩])
  (.ghost (.kill [14, 15])))
  (.seq (.seq (.region true [
 ⟨some 16, .mv (.tmp 0), none, [], [0]⟩,
 ⟨some 17, .mv (.tmp 5), none, [], [5]⟩,
 ⟨some 18, .iaddr 1 (.tmp 16) (.tmp 17), none, [0, 1], [16, 17]⟩,
 ⟨some 19, .load false 1 (.tmp 18), none, [2], [18]⟩,
 ⟨some 20, .mv (.tmp 1), none, [], [1]⟩,
 ⟨some 21, .mv (.tmp 5), none, [], [5]⟩,
 ⟨some 22, .iaddr 1 (.tmp 20) (.tmp 21), none, [4, 5], [20, 21]⟩,
 ⟨some 23, .load false 1 (.tmp 22), none, [6], [22]⟩,
 ⟨some 24, .bin .neq (.tmp 19) (.tmp 23), none, [3, 7], [19, 23]⟩])
  (.ghost (.kill [5, 16, 17, 18, 19, 20, 21, 22, 23])))
  (.cond (.tmp 24) (.seq (.region false [
      ⟨some 4, .mv (.cst (.bool false)), none, [], []⟩])
    .ret)
  .skip))))
  (.ghost (.kill [24])))
  (.seq (.region false [
 ⟨some 25, .bin .add (.tmp 13) (.cst (.int .i64 1)), none, [], []⟩,
 ⟨some 13, .mv (.tmp 25), none, [], []⟩])
  (.ghost (.kill [25]))))))
def slices_Equal_int.main : ACode := (.seq (.seq (.region false [
 ⟨some 4, .mv (.cst (.bool false)), none, [], []⟩])
  (.ghost (.kill [4])))
  (.seq (.seq (.seq (.region false [
 ⟨some 6, .mv (.tmp 0), none, [], []⟩,
 ⟨some 7, .len .sl (.tmp 6), none, [], []⟩,
 ⟨some 8, .mv (.tmp 1), none, [], []⟩,
 ⟨some 9, .len .sl (.tmp 8), none, [], []⟩,
 ⟨some 10, .bin .neq (.tmp 7) (.tmp 9), none, [], []⟩])
  (.ghost (.kill [6, 7, 8, 9])))
  (.cond (.tmp 10) (.seq (.region false [
      ⟨some 4, .mv (.cst (.bool false)), none, [], []⟩])
    .ret)
  .skip))
  (.seq (.seq (.seq (.region false [
 ⟨some 11, .mv (.tmp 0), none, [], []⟩,
 ⟨some 12, .len .sl (.tmp 11), none, [], []⟩,
 ⟨some 13, .mv (.cst (.int .i64 0)), none, [], []⟩])
  (.ghost (.kill [10, 11])))
  (.seq (.block 0 (.loop slices_Equal_int.b0))
  slices_Equal_int.c1))
  slices_Equal_int.c0)))
def slices_Equal_int.k0 : List Item := [.inBlock 0, .code slices_Equal_int.c1, .code slices_Equal_int.c0]
def slices_Equal_int : AFunc := ⟨26, [.tmp 4], slices_Equal_int.main⟩
/-- chapman/chapmanref20.fits -/
def r20_fits.c0 : ACode := (.seq (.region false [
 ⟨some 44, .mv (.tmp 1), none, [], []⟩,
 ⟨some 45, .mv (.tmp 2), none, [], []⟩,
 ⟨some 46, .iaddr 1 (.tmp 44) (.tmp 45), none, [], []⟩,
 ⟨some 47, .load false 1 (.tmp 46), none, [], []⟩,
 ⟨some 6, .mv (.tmp 47), none, [], []⟩])
  .ret)
def r20_fits.b0 : ACode := (.seq (.seq (.seq (.region false [
 ⟨some 9, .mv (.tmp 7), none, [], []⟩,
 ⟨some 10, .mv (.tmp 1), none, [], []⟩,
 ⟨some 11, .mv (.tmp 2), none, [], []⟩,
 ⟨some 12, .iaddr 1 (.tmp 10) (.tmp 11), none, [], []⟩,
 ⟨some 13, .load false 1 (.tmp 12), none, [], []⟩,
 ⟨some 14, .bin .leq (.tmp 9) (.tmp 13), none, [], []⟩])
  (.ghost (.kill [9, 10, 11, 12, 13])))
  (.cond (.tmp 14) .skip
  (.exit 0)))
  (.seq (.seq (.block 1 (.seq (.seq (.region false [
 ⟨some 17, .mv (.tmp 0), none, [], []⟩,
 ⟨some 18, .mv (.tmp 2), none, [], []⟩,
 ⟨some 19, .mv (.tmp 7), none, [], []⟩,
 ⟨some 20, .build [(.int .i64 0), (.int .i64 0)] [(0, 1, (.tmp 18)), (1, 1, (.tmp 19))], none, [], []⟩,
 ⟨some 21, .call true i_r20_Find [(.tmp 17), (.tmp 20)], none, [], []⟩,
 ⟨some 8, .mv (.tmp 21), none, [], []⟩])
  (.ghost (.kill [14, 17, 18, 19, 20, 21])))
  (.seq (.seq (.region false [
 ⟨some 22, .mv (.tmp 8), none, [], []⟩,
 ⟨some 23, .bin .lss (.tmp 22) (.cst (.int .i64 0)), none, [], []⟩,
 ⟨some 24, .mv (.tmp 23), none, [], []⟩,
 ⟨some 25, .mv (.tmp 0), (some ((some 24), false)), [], []⟩,
 ⟨some 26, .mv (.tmp 8), (some ((some 24), false)), [], []⟩,
 ⟨some 27, .iaddr 5 (.tmp 25) (.tmp 26), (some ((some 24), false)), [], []⟩,
 ⟨some 28, .load true 5 (.tmp 27), (some ((some 24), false)), [], []⟩,
 ⟨some 29, .call true i_r20_WellFormed [(.tmp 28)], (some ((some 24), false)), [], []⟩,
 ⟨some 30, .un .not (.tmp 29), (some ((some 24), false)), [], []⟩,
 ⟨some 31, .pick (.tmp 24) (.cst (.bool true)) (.tmp 30), none, [], []⟩,
 ⟨some 32, .mv (.tmp 31), none, [], []⟩,
 ⟨some 33, .mv (.tmp 0), (some ((some 32), false)), [], []⟩,
 ⟨some 34, .mv (.tmp 8), (some ((some 32), false)), [], []⟩,
 ⟨some 35, .iaddr 5 (.tmp 33) (.tmp 34), (some ((some 32), false)), [], []⟩,
 ⟨some 36, .faddr 2 (.tmp 35), (some ((some 32), false)), [], []⟩,
 ⟨some 37, .load false 1 (.tmp 36), (some ((some 32), false)), [], []⟩,
 ⟨some 38, .mv (.tmp 1), (some ((some 32), false)), [], []⟩,
 ⟨some 39, .call true i_r20_Leq [(.tmp 37), (.tmp 38)], (some ((some 32), false)), [], []⟩,
 ⟨some 40, .un .not (.tmp 39), (some ((some 32), false)), [], []⟩,
 ⟨some 41, .pick (.tmp 32) (.cst (.bool true)) (.tmp 40), none, [], []⟩])
  (.ghost (.kill [8, 22, 23, 24, 25, 26, 27, 28, 29, 30, 31, 32, 33, 34, 35, 36, 37, 38, 39, 40])))
  (.cond (.tmp 41) (.seq (.region false [
      ⟨some 42, .mv (.tmp 7), none, [], []⟩,
      ⟨some 43, .bin .sub (.tmp 42) (.cst (.int .i64 1)), none, [], []⟩,
      ⟨some 6, .mv (.tmp 43), none, [], []⟩])
    .ret)
  .skip))))
  (.ghost (.kill [41])))
  (.seq (.region false [
 ⟨some 15, .mv (.tmp 7), none, [], []⟩,
 ⟨some 16, .bin .add (.tmp 15) (.cst (.int .i64 1)), none, [], []⟩,
 ⟨some 7, .mv (.tmp 16), none, [], []⟩])
  (.ghost (.kill [15, 16])))))
def r20_fits.main : ACode := (.seq (.seq (.region false [
 ⟨some 6, .mv (.cst (.int .i64 0)), none, [], []⟩])
  (.ghost (.kill [6])))
  (.seq (.seq (.region false [
 ⟨some 7, .mv (.cst (.int .i64 1)), none, [], []⟩])
  (.seq (.block 0 (.loop r20_fits.b0))
  (.ghost (.kill [0, 7, 14]))))
  r20_fits.c0))
def r20_fits.k0 : List Item := [.inBlock 0, .code (.ghost (.kill [0, 7, 14])), .code r20_fits.c0]
def r20_fits : AFunc := ⟨48, [.tmp 6], r20_fits.main⟩
/-- chapman/cut.Greatest -/
def cut_Greatest.main : ACode := (.seq (.seq (.region false [
 ⟨some 4, .mv (.cst .nils), none, [], []⟩,
 ⟨some 5, .mv (.cst (.int .i64 0)), none, [], []⟩])
  (.ghost (.kill [4, 5])))
  (.seq (.seq (.seq (.region false [
 ⟨some 7, .mv (.tmp 1), none, [], []⟩,
 ⟨some 8, .call true i_cut_Valid [(.tmp 7)], none, [], []⟩,
 ⟨some 9, .un .not (.tmp 8), none, [], []⟩])
  (.ghost (.kill [7, 8])))
  (.cond (.tmp 9) (.seq (.region false [
      ⟨some 4, .mv (.cst .nils), none, [], []⟩,
      ⟨some 5, .mv (.cst (.int .i64 200)), none, [], []⟩])
    .ret)
  .skip))
  (.seq (.seq (.region false [
 ⟨some 10, .mv (.tmp 1), none, [], []⟩,
 ⟨some 11, .call false i_slices_Clone_int [(.tmp 10)], none, [], []⟩,
 ⟨some 6, .mv (.tmp 11), none, [], []⟩])
  (.ghost (.kill [1, 9, 10, 11])))
  (.seq (.seq (.region false [
 ⟨some 12, .mv (.tmp 0), none, [], []⟩,
 ⟨some 13, .mv (.tmp 6), none, [], []⟩,
 ⟨some 14, .call false i_cut_reach [(.tmp 12), (.tmp 13)], none, [], []⟩])
  (.ghost (.kill [0, 12, 13, 14])))
  (.seq (.region false [
 ⟨some 15, .mv (.tmp 6), none, [], []⟩,
 ⟨some 4, .mv (.tmp 15), none, [], []⟩,
 ⟨some 5, .mv (.cst (.int .i64 0)), none, [], []⟩])
  .ret)))))
def cut_Greatest : AFunc := ⟨16, [.tmp 4, .tmp 5], cut_Greatest.main⟩
/-- chapman/cut.compare -/
def cut_compare.main : ACode := (.seq (.seq (.region false [
 ⟨some 2, .box 5 (.tmp 0), none, [], []⟩,
 ⟨some 3, .box 5 (.tmp 1), none, [], []⟩,
 ⟨some 4, .mv (.cst (.int .i64 0)), none, [], []⟩])
  (.ghost (.kill [0, 1, 4])))
  (.seq (.region true [
 ⟨some 5, .load true 5 (.tmp 2), none, [], [2]⟩,
 ⟨some 6, .call true i_cut_weight [(.tmp 5)], none, [0], [5]⟩,
 ⟨some 7, .load true 5 (.tmp 3), none, [], [3]⟩,
 ⟨some 8, .call true i_cut_weight [(.tmp 7)], none, [2, 1], [7]⟩,
 ⟨some 9, .call true i_cmp_Compare_int [(.tmp 6), (.tmp 8)], none, [1, 3, 3], [6, 8]⟩,
 ⟨some 10, .faddr 0 (.tmp 2), none, [], [2]⟩,
 ⟨some 11, .faddr 0 (.tmp 10), none, [5], [10]⟩,
 ⟨some 12, .load false 1 (.tmp 11), none, [6], [11]⟩,
 ⟨some 13, .faddr 0 (.tmp 3), none, [], [3]⟩,
 ⟨some 14, .faddr 0 (.tmp 13), none, [8], [13]⟩,
 ⟨some 15, .load false 1 (.tmp 14), none, [9], [14]⟩,
 ⟨some 16, .call true i_cmp_Compare_int [(.tmp 12), (.tmp 15)], none, [7, 10, 4], [12, 15]⟩,
 ⟨some 17, .faddr 0 (.tmp 2), none, [], [2]⟩,
 ⟨some 18, .faddr 1 (.tmp 17), none, [12], [17]⟩,
 ⟨some 19, .load false 1 (.tmp 18), none, [13], [18]⟩,
 ⟨some 20, .faddr 0 (.tmp 3), none, [], [3]⟩,
 ⟨some 21, .faddr 1 (.tmp 20), none, [15], [20]⟩,
 ⟨some 22, .load false 1 (.tmp 21), none, [16], [21]⟩,
 ⟨some 23, .call true i_cmp_Compare_int [(.tmp 19), (.tmp 22)], none, [14, 17, 11], [19, 22]⟩,
 ⟨some 24, .bslice 1 3 [(.int .i64 0)] [(0, (.tmp 9)), (1, (.tmp 16)), (2, (.tmp 23))], none, [4, 11, 18], [9, 16, 23]⟩,
 ⟨some 25, .call true i_cmp_Or_int [(.tmp 24)], none, [19, 18], [24]⟩,
 ⟨some 4, .mv (.tmp 25), none, [20, 20, 0, 1, 2, 3, 4, 5, 6, 7, 8, 9, 10, 11, 12, 13, 14, 15, 16, 17, 18, 19, 20], [25]⟩])
  .ret))
def cut_compare : AFunc := ⟨26, [.tmp 4], cut_compare.main⟩
/-- chapman/chapmanref20.Weight -/
def r20_Weight.c0 : ACode := (.seq (.region false [
 ⟨some 19, .mv (.tmp 3), none, [], []⟩,
 ⟨some 2, .mv (.tmp 19), none, [], []⟩])
  .ret)
def r20_Weight.b0 : ACode := (.seq (.seq (.seq (.region false [
 ⟨some 5, .mv (.tmp 4), none, [], []⟩,
 ⟨some 6, .faddr 2 (.tmp 1), none, [], []⟩,
 ⟨some 7, .load false 1 (.tmp 6), none, [], []⟩,
 ⟨some 8, .len .sl (.tmp 7), none, [], []⟩,
 ⟨some 9, .bin .lss (.tmp 5) (.tmp 8), none, [], []⟩])
  (.ghost (.kill [5, 6, 7, 8])))
  (.cond (.tmp 9) .skip
  (.exit 0)))
  (.seq (.block 1 (.seq (.region false [
 ⟨some 12, .mv (.tmp 3), none, [], []⟩,
 ⟨some 13, .faddr 2 (.tmp 1), none, [], []⟩,
 ⟨some 14, .load false 1 (.tmp 13), none, [], []⟩,
 ⟨some 15, .mv (.tmp 4), none, [], []⟩,
 ⟨some 16, .iaddr 1 (.tmp 14) (.tmp 15), none, [], []⟩,
 ⟨some 17, .load false 1 (.tmp 16), none, [], []⟩,
 ⟨some 18, .bin .add (.tmp 12) (.tmp 17), none, [], []⟩,
 ⟨some 3, .mv (.tmp 18), none, [], []⟩])
  (.ghost (.kill [9, 12, 13, 14, 15, 16, 17, 18]))))
  (.seq (.region false [
 ⟨some 10, .mv (.tmp 4), none, [], []⟩,
 ⟨some 11, .bin .add (.tmp 10) (.cst (.int .i64 1)), none, [], []⟩,
 ⟨some 4, .mv (.tmp 11), none, [], []⟩])
  (.ghost (.kill [10, 11])))))
def r20_Weight.main : ACode := (.seq (.seq (.region false [
 ⟨some 1, .box 5 (.tmp 0), none, [], []⟩,
 ⟨some 2, .mv (.cst (.int .i64 0)), none, [], []⟩])
  (.ghost (.kill [0, 2])))
  (.seq (.region false [
 ⟨some 3, .mv (.cst (.int .i64 0)), none, [], []⟩])
  (.seq (.seq (.region false [
 ⟨some 4, .mv (.cst (.int .i64 0)), none, [], []⟩])
  (.seq (.block 0 (.loop r20_Weight.b0))
  (.ghost (.kill [1, 4, 9]))))
  r20_Weight.c0)))
def r20_Weight.k0 : List Item := [.inBlock 0, .code (.ghost (.kill [1, 4, 9])), .code r20_Weight.c0]
def r20_Weight : AFunc := ⟨20, [.tmp 2], r20_Weight.main⟩
/-- chapman/cut.Closure -/
def cut_Closure.c0 : ACode := (.seq (.region false [
 ⟨some 45, .load false 1 (.tmp 7), none, [], []⟩,
 ⟨some 4, .mv (.tmp 45), none, [], []⟩,
 ⟨some 5, .mv (.cst (.int .i64 0)), none, [], []⟩])
  .ret)
def cut_Closure.c1 : ACode := (.ghost (.kill [8, 34, 35, 36, 37]))
def cut_Closure.b1 : ACode := (.seq (.region false [
 ⟨some 37, .bin .lss (.tmp 36) (.tmp 35), none, [], []⟩])
  (.seq (.cond (.tmp 37) .skip
  (.exit 2))
  (.seq (.trunc (.seq (.block 3 (.seq (.seq (.region false [
 ⟨some 38, .iaddr 2 (.tmp 34) (.tmp 36), none, [], []⟩,
 ⟨some 39, .load true 2 (.tmp 38), none, [], []⟩,
 ⟨some 14, .alloc [(.int .i64 0), (.int .i64 0)], none, [], []⟩,
 ⟨none, .store 2 (.tmp 14) (.tmp 39), none, [], []⟩])
  (.ghost (.kill [37, 38, 39])))
  (.seq (.seq (.region false [
 ⟨some 40, .load false 1 (.tmp 8), none, [], []⟩,
 ⟨some 41, .load true 2 (.tmp 14), none, [], []⟩,
 ⟨some 42, .callv false (.tmp 40) [(.tmp 41)], none, [], []⟩,
 ⟨some 43, .un .not (.tmp 42), none, [], []⟩])
  (.ghost (.kill [14, 40, 41, 42])))
  (.cond (.tmp 43) (.seq (.region false [
      ⟨some 4, .mv (.cst .nils), none, [], []⟩,
      ⟨some 5, .mv (.cst (.int .i64 200)), none, [], []⟩])
    .ret)
  .skip))))
  (.ghost (.kill [43]))))
  (.seq (.region false [
 ⟨some 44, .bin .add (.tmp 36) (.cst (.int .i64 1)), none, [], []⟩,
 ⟨some 36, .mv (.tmp 44), none, [], []⟩])
  (.ghost (.kill [44]))))))
def cut_Closure.c2 : ACode := (.seq (.seq (.seq (.region false [
 ⟨some 34, .mv (.tmp 1), none, [], []⟩,
 ⟨some 35, .len .sl (.tmp 34), none, [], []⟩,
 ⟨some 36, .mv (.cst (.int .i64 0)), none, [], []⟩])
  (.ghost (.kill [1])))
  (.seq (.block 2 (.loop cut_Closure.b1))
  cut_Closure.c1))
  cut_Closure.c0)
def cut_Closure.c3 : ACode := (.ghost (.kill [6, 19, 20, 21, 22]))
def cut_Closure.b0 : ACode := (.seq (.region false [
 ⟨some 22, .bin .lss (.tmp 21) (.tmp 20), none, [], []⟩])
  (.seq (.cond (.tmp 22) .skip
  (.exit 0))
  (.seq (.trunc (.seq (.block 1 (.seq (.seq (.region false [
 ⟨some 23, .iaddr 2 (.tmp 19) (.tmp 21), none, [], []⟩,
 ⟨some 24, .load true 2 (.tmp 23), none, [], []⟩,
 ⟨some 10, .alloc [(.int .i64 0), (.int .i64 0)], none, [], []⟩,
 ⟨none, .store 2 (.tmp 10) (.tmp 24), none, [], []⟩])
  (.ghost (.kill [22, 23, 24])))
  (.seq (.seq (.region false [
 ⟨some 26, .load false 1 (.tmp 6), none, [], []⟩,
 ⟨some 27, .load true 2 (.tmp 10), none, [], []⟩,
 ⟨some 28, .lookup (.row [(0, 1, false, (.int .i64)), (1, 1, false, (.int .i64))]) (.int .i64 0) true (.tmp 26) (.tmp 27), none, [], []⟩,
 ⟨some 25, .mv (.tmp 28), none, [], []⟩,
 ⟨some 29, .extr (.tmp 25) 0, none, [], []⟩,
 ⟨some 30, .extr (.tmp 25) 1, none, [], []⟩,
 ⟨some 11, .mv (.tmp 29), none, [], []⟩,
 ⟨some 12, .mv (.tmp 30), none, [], []⟩])
  (.ghost (.kill [10, 11, 25, 26, 27, 28, 29, 30])))
  (.seq (.seq (.region false [
 ⟨some 31, .mv (.tmp 12), none, [], []⟩,
 ⟨some 32, .un .not (.tmp 31), none, [], []⟩])
  (.ghost (.kill [12, 31])))
  (.cond (.tmp 32) (.seq (.region false [
      ⟨some 4, .mv (.cst .nils), none, [], []⟩,
      ⟨some 5, .mv (.cst (.int .i64 4)), none, [], []⟩])
    .ret)
  .skip)))))
  (.ghost (.kill [32]))))
  (.seq (.region false [
 ⟨some 33, .bin .add (.tmp 21) (.cst (.int .i64 1)), none, [], []⟩,
 ⟨some 21, .mv (.tmp 33), none, [], []⟩])
  (.ghost (.kill [33]))))))
def cut_Closure.main : ACode := (.seq (.seq (.region false [
 ⟨some 2, .box 1 (.tmp 0), none, [], []⟩,
 ⟨some 4, .mv (.cst .nils), none, [], []⟩,
 ⟨some 5, .mv (.cst (.int .i64 0)), none, [], []⟩])
  (.ghost (.kill [0, 4, 5])))
  (.seq (.seq (.region false [
 ⟨some 15, .load false 1 (.tmp 2), none, [], []⟩,
 ⟨some 16, .call true i_cut_indices [(.tmp 15)], none, [], []⟩,
 ⟨some 6, .alloc [.nilm], none, [], []⟩,
 ⟨none, .store 1 (.tmp 6) (.tmp 16), none, [], []⟩])
  (.ghost (.kill [15, 16])))
  (.seq (.seq (.region false [
 ⟨some 17, .mkslice 1 8 [(.int .i64 0)] (.cst (.int .i64 6)) (.cst (.int .i64 6)), none, [], []⟩,
 ⟨some 7, .alloc [.nils], none, [], []⟩,
 ⟨none, .store 1 (.tmp 7) (.tmp 17), none, [], []⟩])
  (.ghost (.kill [17])))
  (.seq (.region false [
 ⟨some 8, .alloc [.nilf], none, [], []⟩])
  (.seq (.seq (.region false [
 ⟨some 18, .mkfn (.func i_cut_Closure_1) [] [(.tmp 6), (.tmp 2), (.tmp 7), (.tmp 8)], none, [], []⟩,
 ⟨none, .store 1 (.tmp 8) (.tmp 18), none, [], []⟩])
  (.ghost (.kill [2, 18])))
  (.seq (.seq (.region false [
 ⟨some 19, .mv (.tmp 1), none, [], []⟩,
 ⟨some 20, .len .sl (.tmp 19), none, [], []⟩,
 ⟨some 21, .mv (.cst (.int .i64 0)), none, [], []⟩])
  (.seq (.block 0 (.loop cut_Closure.b0))
  cut_Closure.c3))
  cut_Closure.c2))))))
def cut_Closure.k1 : List Item := [.inBlock 2, .code cut_Closure.c1, .code cut_Closure.c0]
def cut_Closure.k0 : List Item := [.inBlock 0, .code cut_Closure.c3, .code cut_Closure.c2]
def cut_Closure : AFunc := ⟨46, [.tmp 4, .tmp 5], cut_Closure.main⟩
/-- slices.IndexFunc[[]int,int] -/
def slices_IndexFunc_int.c0 : ACode := (.seq (.region false [
 ⟨some 4, .mv (.cst (.int .i64 (-1))), none, [], []⟩])
  .ret)
def slices_IndexFunc_int.c1 : ACode := (.ghost (.kill [0, 1, 7, 8, 9]))
def slices_IndexFunc_int.b0 : ACode := (.seq (.region false [
 ⟨some 9, .bin .lss (.tmp 8) (.tmp 7), none, [], []⟩])
  (.seq (.cond (.tmp 9) .skip
  (.exit 0))
  (.seq (.seq (.block 1 (.seq (.seq (.region false [
 ⟨some 10, .mv (.tmp 8), none, [], []⟩,
 ⟨some 5, .mv (.tmp 10), none, [], []⟩])
  (.ghost (.kill [9, 10])))
  (.seq (.seq (.region false [
 ⟨some 11, .mv (.tmp 1), none, [], []⟩,
 ⟨some 12, .mv (.tmp 0), none, [], []⟩,
 ⟨some 13, .mv (.tmp 5), none, [], []⟩,
 ⟨some 14, .iaddr 1 (.tmp 12) (.tmp 13), none, [], []⟩,
 ⟨some 15, .load false 1 (.tmp 14), none, [], []⟩,
 ⟨some 16, .callv true (.tmp 11) [(.tmp 15)], none, [], []⟩])
  (.ghost (.kill [11, 12, 13, 14, 15])))
  (.cond (.tmp 16) (.seq (.region false [
      ⟨some 17, .mv (.tmp 5), none, [], []⟩,
      ⟨some 4, .mv (.tmp 17), none, [], []⟩])
    .ret)
  .skip))))
  (.ghost (.kill [5, 16])))
  (.seq (.region false [
 ⟨some 18, .bin .add (.tmp 8) (.cst (.int .i64 1)), none, [], []⟩,
 ⟨some 8, .mv (.tmp 18), none, [], []⟩])
  (.ghost (.kill [18]))))))
def slices_IndexFunc_int.main : ACode := (.seq (.seq (.region false [
 ⟨some 4, .mv (.cst (.int .i64 0)), none, [], []⟩])
  (.ghost (.kill [4])))
  (.seq (.seq (.seq (.region false [
 ⟨some 6, .mv (.tmp 0), none, [], []⟩,
 ⟨some 7, .len .sl (.tmp 6), none, [], []⟩,
 ⟨some 8, .mv (.cst (.int .i64 0)), none, [], []⟩])
  (.ghost (.kill [6])))
  (.seq (.block 0 (.loop slices_IndexFunc_int.b0))
  slices_IndexFunc_int.c1))
  slices_IndexFunc_int.c0))
def slices_IndexFunc_int.k0 : List Item := [.inBlock 0, .code slices_IndexFunc_int.c1, .code slices_IndexFunc_int.c0]
def slices_IndexFunc_int : AFunc := ⟨19, [.tmp 4], slices_IndexFunc_int.main⟩
/-- chapman/cut.merge -/
def cut_merge.c0 : ACode := (.seq (.region false [
 ⟨some 39, .mv (.tmp 8), none, [], []⟩,
 ⟨some 6, .mv (.tmp 39), none, [], []⟩,
 ⟨some 7, .mv (.cst (.int .i64 0)), none, [], []⟩])
  .ret)
def cut_merge.c1 : ACode := (.ghost (.kill [2, 21, 22, 23, 24]))
def cut_merge.b0 : ACode := (.seq (.region false [
 ⟨some 24, .bin .lss (.tmp 23) (.tmp 22), none, [], []⟩])
  (.seq (.cond (.tmp 24) .skip
  (.exit 0))
  (.seq (.block 1 (.seq (.seq (.region false [
 ⟨some 25, .mv (.tmp 23), none, [], []⟩,
 ⟨some 26, .iaddr 1 (.tmp 21) (.tmp 23), none, [], []⟩,
 ⟨some 27, .load false 1 (.tmp 26), none, [], []⟩,
 ⟨some 9, .mv (.tmp 25), none, [], []⟩,
 ⟨some 10, .mv (.tmp 27), none, [], []⟩])
  (.ghost (.kill [24, 25, 26, 27])))
  (.seq (.region false [
 ⟨some 28, .mv (.tmp 8), none, [], []⟩,
 ⟨some 29, .mv (.tmp 9), none, [], []⟩,
 ⟨some 30, .mv (.tmp 2), none, [], []⟩,
 ⟨some 31, .mv (.tmp 8), none, [], []⟩,
 ⟨some 32, .mv (.tmp 9), none, [], []⟩,
 ⟨some 33, .iaddr 1 (.tmp 31) (.tmp 32), none, [], []⟩,
 ⟨some 34, .load false 1 (.tmp 33), none, [], []⟩,
 ⟨some 35, .mv (.tmp 10), none, [], []⟩,
 ⟨some 36, .callv true (.tmp 30) [(.tmp 34), (.tmp 35)], none, [], []⟩,
 ⟨some 37, .iaddr 1 (.tmp 28) (.tmp 29), none, [], []⟩,
 ⟨none, .store 1 (.tmp 37) (.tmp 36), none, [], []⟩])
  (.ghost (.kill [9, 10, 28, 29, 30, 31, 32, 33, 34, 35, 36, 37])))))
  (.seq (.region false [
 ⟨some 38, .bin .add (.tmp 23) (.cst (.int .i64 1)), none, [], []⟩,
 ⟨some 23, .mv (.tmp 38), none, [], []⟩])
  (.ghost (.kill [38]))))))
def cut_merge.main : ACode := (.seq (.seq (.region false [
 ⟨some 6, .mv (.cst .nils), none, [], []⟩,
 ⟨some 7, .mv (.cst (.int .i64 0)), none, [], []⟩])
  (.ghost (.kill [6, 7])))
  (.seq (.seq (.seq (.region false [
 ⟨some 11, .mv (.tmp 0), none, [], []⟩,
 ⟨some 12, .call true i_cut_Valid [(.tmp 11)], none, [], []⟩,
 ⟨some 13, .un .not (.tmp 12), none, [], []⟩,
 ⟨some 14, .mv (.tmp 13), none, [], []⟩,
 ⟨some 15, .mv (.tmp 1), (some ((some 14), false)), [], []⟩,
 ⟨some 16, .call true i_cut_Valid [(.tmp 15)], (some ((some 14), false)), [], []⟩,
 ⟨some 17, .un .not (.tmp 16), (some ((some 14), false)), [], []⟩,
 ⟨some 18, .pick (.tmp 14) (.cst (.bool true)) (.tmp 17), none, [], []⟩])
  (.ghost (.kill [11, 12, 13, 14, 15, 16, 17])))
  (.cond (.tmp 18) (.seq (.region false [
      ⟨some 6, .mv (.cst .nils), none, [], []⟩,
      ⟨some 7, .mv (.cst (.int .i64 200)), none, [], []⟩])
    .ret)
  .skip))
  (.seq (.seq (.region false [
 ⟨some 19, .mv (.tmp 0), none, [], []⟩,
 ⟨some 20, .call false i_slices_Clone_int [(.tmp 19)], none, [], []⟩,
 ⟨some 8, .mv (.tmp 20), none, [], []⟩])
  (.ghost (.kill [0, 18, 19, 20])))
  (.seq (.seq (.seq (.region false [
 ⟨some 21, .mv (.tmp 1), none, [], []⟩,
 ⟨some 22, .len .sl (.tmp 21), none, [], []⟩,
 ⟨some 23, .mv (.cst (.int .i64 0)), none, [], []⟩])
  (.ghost (.kill [1])))
  (.seq (.block 0 (.loop cut_merge.b0))
  cut_merge.c1))
  cut_merge.c0))))
def cut_merge.k0 : List Item := [.inBlock 0, .code cut_merge.c1, .code cut_merge.c0]
def cut_merge : AFunc := ⟨40, [.tmp 6, .tmp 7], cut_merge.main⟩
/-- chapman/cut.Join$1 -/
def cut_Join_1.main : ACode := (.seq (.seq (.region false [
 ⟨some 4, .mv (.cst (.int .i64 0)), none, [], []⟩])
  (.ghost (.kill [4])))
  (.seq (.region false [
 ⟨some 5, .mv (.tmp 0), none, [], []⟩,
 ⟨some 6, .mv (.tmp 1), none, [], []⟩,
 ⟨some 7, .minmax true [(.tmp 5), (.tmp 6)], none, [], []⟩,
 ⟨some 4, .mv (.tmp 7), none, [], []⟩])
  .ret))
def cut_Join_1 : AFunc := ⟨8, [.tmp 4], cut_Join_1.main⟩
/-- chapman/cut.Meet$1 -/
def cut_Meet_1.main : ACode := (.seq (.seq (.region false [
 ⟨some 4, .mv (.cst (.int .i64 0)), none, [], []⟩])
  (.ghost (.kill [4])))
  (.seq (.region false [
 ⟨some 5, .mv (.tmp 0), none, [], []⟩,
 ⟨some 6, .mv (.tmp 1), none, [], []⟩,
 ⟨some 7, .minmax false [(.tmp 5), (.tmp 6)], none, [], []⟩,
 ⟨some 4, .mv (.tmp 7), none, [], []⟩])
  .ret))
def cut_Meet_1 : AFunc := ⟨8, [.tmp 4], cut_Meet_1.main⟩
/-- slices.IndexFunc[[]chapman/api.Commit,chapman/api.Commit] -/
def slices_IndexFunc_Commit.c0 : ACode := (.seq (.region false [
 ⟨some 4, .mv (.cst (.int .i64 (-1))), none, [], []⟩])
  .ret)
def slices_IndexFunc_Commit.c1 : ACode := (.ghost (.kill [0, 1, 7, 8, 9]))
def slices_IndexFunc_Commit.b0 : ACode := (.seq (.region false [
 ⟨some 9, .bin .lss (.tmp 8) (.tmp 7), none, [], []⟩])
  (.seq (.cond (.tmp 9) .skip
  (.exit 0))
  (.seq (.seq (.block 1 (.seq (.seq (.region false [
 ⟨some 10, .mv (.tmp 8), none, [], []⟩,
 ⟨some 5, .mv (.tmp 10), none, [], []⟩])
  (.ghost (.kill [9, 10])))
  (.seq (.seq (.region false [
 ⟨some 11, .mv (.tmp 1), none, [], []⟩,
 ⟨some 12, .mv (.tmp 0), none, [], []⟩,
 ⟨some 13, .mv (.tmp 5), none, [], []⟩,
 ⟨some 14, .iaddr 5 (.tmp 12) (.tmp 13), none, [], []⟩,
 ⟨some 15, .load true 5 (.tmp 14), none, [], []⟩,
 ⟨some 16, .callv true (.tmp 11) [(.tmp 15)], none, [], []⟩])
  (.ghost (.kill [11, 12, 13, 14, 15])))
  (.cond (.tmp 16) (.seq (.region false [
      ⟨some 17, .mv (.tmp 5), none, [], []⟩,
      ⟨some 4, .mv (.tmp 17), none, [], []⟩])
    .ret)
  .skip))))
  (.ghost (.kill [5, 16])))
  (.seq (.region false [
 ⟨some 18, .bin .add (.tmp 8) (.cst (.int .i64 1)), none, [], []⟩,
 ⟨some 8, .mv (.tmp 18), none, [], []⟩])
  (.ghost (.kill [18]))))))
def slices_IndexFunc_Commit.main : ACode := (.seq (.seq (.region false [
 ⟨some 4, .mv (.cst (.int .i64 0)), none, [], []⟩])
  (.ghost (.kill [4])))
  (.seq (.seq (.seq (.region false [
 ⟨some 6, .mv (.tmp 0), none, [], []⟩,
 ⟨some 7, .len .sl (.tmp 6), none, [], []⟩,
 ⟨some 8, .mv (.cst (.int .i64 0)), none, [], []⟩])
  (.ghost (.kill [6])))
  (.seq (.block 0 (.loop slices_IndexFunc_Commit.b0))
  slices_IndexFunc_Commit.c1))
  slices_IndexFunc_Commit.c0))
def slices_IndexFunc_Commit.k0 : List Item := [.inBlock 0, .code slices_IndexFunc_Commit.c1, .code slices_IndexFunc_Commit.c0]
def slices_IndexFunc_Commit : AFunc := ⟨19, [.tmp 4], slices_IndexFunc_Commit.main⟩
/-- slices.SortFunc[[]int,int] -/
def slices_SortFunc_int.main : ACode := (.seq (.seq (.region false [
 ⟨some 5, .mv (.tmp 0), none, [], []⟩,
 ⟨some 6, .len .sl (.tmp 5), none, [], []⟩,
 ⟨some 4, .mv (.tmp 6), none, [], []⟩])
  (.ghost (.kill [5, 6])))
  (.seq (.region false [
 ⟨some 7, .mv (.tmp 0), none, [], []⟩,
 ⟨some 8, .mv (.tmp 4), none, [], []⟩,
 ⟨some 9, .mv (.tmp 4), none, [], []⟩,
 ⟨some 10, .conv .u64 (.tmp 9), none, [], []⟩,
 ⟨some 11, .call true i_bits_Len [(.tmp 10)], none, [], []⟩,
 ⟨some 12, .mv (.tmp 1), none, [], []⟩,
 ⟨some 13, .call false i_slices_pdqsortCmpFunc_int [(.tmp 7), (.cst (.int .i64 0)), (.tmp 8), (.tmp 11), (.tmp 12)], none, [], []⟩])
  (.ghost (.kill [0, 1, 4, 7, 8, 9, 10, 11, 12, 13]))))
def slices_SortFunc_int : AFunc := ⟨14, [], slices_SortFunc_int.main⟩
/-- chapman/cut.Order$1 -/
def cut_Order_1.main : ACode := (.seq (.seq (.region false [
 ⟨some 5, .mv (.cst (.int .i64 0)), none, [], []⟩])
  (.ghost (.kill [5])))
  (.seq (.region true [
 ⟨some 6, .load false 1 (.tmp 2), none, [], [2]⟩,
 ⟨some 7, .mv (.tmp 0), none, [], [0]⟩,
 ⟨some 8, .iaddr 5 (.tmp 6) (.tmp 7), none, [0, 1], [6, 7]⟩,
 ⟨some 9, .load true 5 (.tmp 8), none, [2], [8]⟩,
 ⟨some 10, .load false 1 (.tmp 2), none, [], [2]⟩,
 ⟨some 11, .mv (.tmp 1), none, [], [1]⟩,
 ⟨some 12, .iaddr 5 (.tmp 10) (.tmp 11), none, [4, 5], [10, 11]⟩,
 ⟨some 13, .load true 5 (.tmp 12), none, [6], [12]⟩,
 ⟨some 14, .call true i_cut_compare [(.tmp 9), (.tmp 13)], none, [3, 7], [9, 13]⟩,
 ⟨some 5, .mv (.tmp 14), none, [8, 8, 0, 1, 2, 3, 4, 5, 6, 7, 8], [14]⟩])
  .ret))
def cut_Order_1 : AFunc := ⟨15, [.tmp 5], cut_Order_1.main⟩
/-- cmp.Or[int] -/
def cmp_Or_int.c0 : ACode := (.seq (.region false [
 ⟨some 17, .mv (.tmp 3), none, [], []⟩,
 ⟨some 2, .mv (.tmp 17), none, [], []⟩])
  .ret)
def cmp_Or_int.b0 : ACode := (.seq (.region false [
 ⟨some 9, .bin .lss (.tmp 8) (.tmp 7), none, [], []⟩])
  (.seq (.cond (.tmp 9) .skip
  (.exit 0))
  (.seq (.seq (.block 1 (.seq (.seq (.region false [
 ⟨some 10, .iaddr 1 (.tmp 6) (.tmp 8), none, [], []⟩,
 ⟨some 11, .load false 1 (.tmp 10), none, [], []⟩,
 ⟨some 5, .mv (.tmp 11), none, [], []⟩])
  (.ghost (.kill [9, 10, 11])))
  (.seq (.seq (.region false [
 ⟨some 12, .mv (.tmp 5), none, [], []⟩,
 ⟨some 13, .mv (.tmp 3), none, [], []⟩,
 ⟨some 14, .bin .neq (.tmp 12) (.tmp 13), none, [], []⟩])
  (.ghost (.kill [12, 13])))
  (.cond (.tmp 14) (.seq (.region false [
      ⟨some 15, .mv (.tmp 5), none, [], []⟩,
      ⟨some 2, .mv (.tmp 15), none, [], []⟩])
    .ret)
  .skip))))
  (.ghost (.kill [5, 14])))
  (.seq (.region false [
 ⟨some 16, .bin .add (.tmp 8) (.cst (.int .i64 1)), none, [], []⟩,
 ⟨some 8, .mv (.tmp 16), none, [], []⟩])
  (.ghost (.kill [16]))))))
def cmp_Or_int.main : ACode := (.seq (.seq (.region false [
 ⟨some 2, .mv (.cst (.int .i64 0)), none, [], []⟩])
  (.ghost (.kill [2])))
  (.seq (.region false [
 ⟨some 3, .mv (.cst (.int .i64 0)), none, [], []⟩])
  (.seq (.seq (.seq (.region false [
 ⟨some 6, .mv (.tmp 0), none, [], []⟩,
 ⟨some 7, .len .sl (.tmp 6), none, [], []⟩,
 ⟨some 8, .mv (.cst (.int .i64 0)), none, [], []⟩])
  (.ghost (.kill [0])))
  (.seq (.block 0 (.loop cmp_Or_int.b0))
  (.ghost (.kill [6, 7, 8, 9]))))
  cmp_Or_int.c0)))
def cmp_Or_int.k0 : List Item := [.inBlock 0, .code (.ghost (.kill [6, 7, 8, 9])), .code cmp_Or_int.c0]
def cmp_Or_int : AFunc := ⟨18, [.tmp 2], cmp_Or_int.main⟩
/-- cmp.Compare[int] -/
def cmp_Compare_int.main : ACode := (.seq (.seq (.region false [
 ⟨some 4, .mv (.cst (.int .i64 0)), none, [], []⟩])
  (.ghost (.kill [4])))
  (.seq (.seq (.region false [
 ⟨some 7, .mv (.tmp 0), none, [], []⟩,
 ⟨some 8, .call true i_cmp_isNaN_int [(.tmp 7)], none, [], []⟩,
 ⟨some 5, .mv (.tmp 8), none, [], []⟩])
  (.ghost (.kill [7, 8])))
  (.seq (.seq (.region false [
 ⟨some 9, .mv (.tmp 1), none, [], []⟩,
 ⟨some 10, .call true i_cmp_isNaN_int [(.tmp 9)], none, [], []⟩,
 ⟨some 6, .mv (.tmp 10), none, [], []⟩])
  (.ghost (.kill [9, 10])))
  (.seq (.seq (.seq (.region false [
 ⟨some 11, .mv (.tmp 5), none, [], []⟩])
  (.ghost (.kill [5])))
  (.cond (.tmp 11) (.seq (.seq (.seq (.region false [
      ⟨some 12, .mv (.tmp 6), none, [], []⟩])
    (.ghost (.kill [0, 1, 6, 11])))
    (.cond (.tmp 12) (.seq (.region false [
        ⟨some 4, .mv (.cst (.int .i64 0)), none, [], []⟩])
      .ret)
    .skip))
    (.seq (.region false [
      ⟨some 4, .mv (.cst (.int .i64 (-1))), none, [], []⟩])
    .ret))
  .skip))
  (.seq (.seq (.seq (.region false [
 ⟨some 13, .mv (.tmp 6), none, [], []⟩])
  (.ghost (.kill [6, 11])))
  (.cond (.tmp 13) (.seq (.region false [
      ⟨some 4, .mv (.cst (.int .i64 1)), none, [], []⟩])
    .ret)
  .skip))
  (.seq (.seq (.seq (.region false [
 ⟨some 14, .mv (.tmp 0), none, [], []⟩,
 ⟨some 15, .mv (.tmp 1), none, [], []⟩,
 ⟨some 16, .bin .lss (.tmp 14) (.tmp 15), none, [], []⟩])
  (.ghost (.kill [13, 14, 15])))
  (.cond (.tmp 16) (.seq (.region false [
      ⟨some 4, .mv (.cst (.int .i64 (-1))), none, [], []⟩])
    .ret)
  .skip))
  (.seq (.seq (.seq (.region false [
 ⟨some 17, .mv (.tmp 0), none, [], []⟩,
 ⟨some 18, .mv (.tmp 1), none, [], []⟩,
 ⟨some 19, .bin .gtr (.tmp 17) (.tmp 18), none, [], []⟩])
  (.ghost (.kill [0, 1, 16, 17, 18])))
  (.cond (.tmp 19) (.seq (.region false [
      ⟨some 4, .mv (.cst (.int .i64 1)), none, [], []⟩])
    .ret)
  .skip))
  (.seq (.region false [
 ⟨some 4, .mv (.cst (.int .i64 0)), none, [], []⟩])
  .ret))))))))
def cmp_Compare_int : AFunc := ⟨20, [.tmp 4], cmp_Compare_int.main⟩
/-- chapman/cut.weight -/
def cut_weight.c0 : ACode := (.seq (.region false [
 ⟨some 17, .mv (.tmp 3), none, [], []⟩,
 ⟨some 2, .mv (.tmp 17), none, [], []⟩])
  .ret)
def cut_weight.c1 : ACode := (.ghost (.kill [7, 8, 9, 10]))
def cut_weight.b0 : ACode := (.seq (.region false [
 ⟨some 10, .bin .lss (.tmp 9) (.tmp 8), none, [], []⟩])
  (.seq (.cond (.tmp 10) .skip
  (.exit 0))
  (.seq (.block 1 (.seq (.seq (.region false [
 ⟨some 11, .iaddr 1 (.tmp 7) (.tmp 9), none, [], []⟩,
 ⟨some 12, .load false 1 (.tmp 11), none, [], []⟩,
 ⟨some 5, .mv (.tmp 12), none, [], []⟩])
  (.ghost (.kill [10, 11, 12])))
  (.seq (.region false [
 ⟨some 13, .mv (.tmp 3), none, [], []⟩,
 ⟨some 14, .mv (.tmp 5), none, [], []⟩,
 ⟨some 15, .bin .add (.tmp 13) (.tmp 14), none, [], []⟩,
 ⟨some 3, .mv (.tmp 15), none, [], []⟩])
  (.ghost (.kill [5, 13, 14, 15])))))
  (.seq (.region false [
 ⟨some 16, .bin .add (.tmp 9) (.cst (.int .i64 1)), none, [], []⟩,
 ⟨some 9, .mv (.tmp 16), none, [], []⟩])
  (.ghost (.kill [16]))))))
def cut_weight.main : ACode := (.seq (.seq (.region false [
 ⟨some 1, .box 5 (.tmp 0), none, [], []⟩,
 ⟨some 2, .mv (.cst (.int .i64 0)), none, [], []⟩])
  (.ghost (.kill [0, 2])))
  (.seq (.region false [
 ⟨some 3, .mv (.cst (.int .i64 0)), none, [], []⟩])
  (.seq (.seq (.seq (.region false [
 ⟨some 6, .faddr 2 (.tmp 1), none, [], []⟩,
 ⟨some 7, .load false 1 (.tmp 6), none, [], []⟩,
 ⟨some 8, .len .sl (.tmp 7), none, [], []⟩,
 ⟨some 9, .mv (.cst (.int .i64 0)), none, [], []⟩])
  (.ghost (.kill [1, 6])))
  (.seq (.block 0 (.loop cut_weight.b0))
  cut_weight.c1))
  cut_weight.c0)))
def cut_weight.k0 : List Item := [.inBlock 0, .code cut_weight.c1, .code cut_weight.c0]
def cut_weight : AFunc := ⟨18, [.tmp 2], cut_weight.main⟩
/-- chapman/cut.Closure$1 -/
def cut_Closure_1.c0 : ACode := (.seq (.region false [
 ⟨some 6, .mv (.cst (.bool true)), none, [], []⟩])
  .ret)
def cut_Closure_1.c1 : ACode := (.ghost (.kill [40, 41, 42, 43]))
def cut_Closure_1.c2 : ACode := (.seq (.region false [
 ⟨some 68, .bin .add (.tmp 42) (.cst (.int .i64 1)), none, [], []⟩,
 ⟨some 42, .mv (.tmp 68), none, [], []⟩])
  (.ghost (.kill [68])))
def cut_Closure_1.b1 : ACode := (.seq (.seq (.seq (.region false [
 ⟨some 47, .load false 1 (.tmp 3), none, [], []⟩,
 ⟨some 48, .mv (.tmp 10), none, [], []⟩,
 ⟨some 49, .iaddr 1 (.tmp 47) (.tmp 48), none, [], []⟩,
 ⟨some 50, .load false 1 (.tmp 49), none, [], []⟩,
 ⟨some 51, .mv (.tmp 11), none, [], []⟩,
 ⟨some 52, .bin .lss (.tmp 50) (.tmp 51), none, [], []⟩])
  (.ghost (.kill [47, 48, 49, 50, 51])))
  (.cond (.tmp 52) .skip
  (.exit 2)))
  (.trunc (.seq (.block 3 (.seq (.seq (.region false [
 ⟨some 53, .load false 1 (.tmp 3), none, [], []⟩,
 ⟨some 54, .mv (.tmp 10), none, [], []⟩,
 ⟨some 55, .iaddr 1 (.tmp 53) (.tmp 54), none, [], []⟩,
 ⟨some 56, .load false 1 (.tmp 55), none, [], []⟩,
 ⟨some 57, .bin .add (.tmp 56) (.cst (.int .i64 1)), none, [], []⟩,
 ⟨some 58, .iaddr 1 (.tmp 53) (.tmp 54), none, [], []⟩,
 ⟨none, .store 1 (.tmp 58) (.tmp 57), none, [], []⟩])
  (.ghost (.kill [52, 53, 54, 55, 56, 57, 58])))
  (.seq (.seq (.region true [
 ⟨some 59, .load false 1 (.tmp 4), none, [], [4]⟩,
 ⟨some 60, .mv (.tmp 10), none, [], [10]⟩,
 ⟨some 61, .load false 1 (.tmp 3), none, [], [3]⟩,
 ⟨some 62, .mv (.tmp 10), none, [], [10]⟩,
 ⟨some 63, .iaddr 1 (.tmp 61) (.tmp 62), none, [2, 3], [61, 62]⟩,
 ⟨some 64, .load false 1 (.tmp 63), none, [4], [63]⟩,
 ⟨some 65, .build [(.int .i64 0), (.int .i64 0)] [(0, 1, (.tmp 60)), (1, 1, (.tmp 64))], none, [1, 5], [60, 64]⟩,
 ⟨some 66, .callv false (.tmp 59) [(.tmp 65)], none, [0, 6], [59, 65]⟩,
 ⟨some 67, .un .not (.tmp 66), none, [7], [66]⟩])
  (.ghost (.kill [59, 60, 61, 62, 63, 64, 65, 66])))
  (.cond (.tmp 67) (.seq (.region false [
      ⟨some 6, .mv (.cst (.bool false)), none, [], []⟩])
    .ret)
  .skip))))
  (.ghost (.kill [67])))))
def cut_Closure_1.b0 : ACode := (.seq (.region false [
 ⟨some 43, .bin .lss (.tmp 42) (.tmp 41), none, [], []⟩])
  (.seq (.cond (.tmp 43) .skip
  (.exit 0))
  (.seq (.trunc (.block 1 (.seq (.seq (.region false [
 ⟨some 44, .mv (.tmp 42), none, [], []⟩,
 ⟨some 45, .iaddr 1 (.tmp 40) (.tmp 42), none, [], []⟩,
 ⟨some 46, .load false 1 (.tmp 45), none, [], []⟩,
 ⟨some 10, .mv (.tmp 44), none, [], []⟩,
 ⟨some 11, .mv (.tmp 46), none, [], []⟩])
  (.ghost (.kill [43, 44, 45, 46])))
  (.seq (.block 2 (.loop cut_Closure_1.b1))
  (.ghost (.kill [10, 11, 52]))))))
  cut_Closure_1.c2)))
def cut_Closure_1.main : ACode := (.seq (.seq (.region false [
 ⟨some 5, .box 2 (.tmp 0), none, [], []⟩,
 ⟨some 6, .mv (.cst (.bool false)), none, [], []⟩])
  (.ghost (.kill [0, 6])))
  (.seq (.seq (.region false [
 ⟨some 13, .load false 1 (.tmp 1), none, [], []⟩,
 ⟨some 14, .load true 2 (.tmp 5), none, [], []⟩,
 ⟨some 15, .lookup (.row [(0, 1, false, (.int .i64)), (1, 1, false, (.int .i64))]) (.int .i64 0) true (.tmp 13) (.tmp 14), none, [], []⟩,
 ⟨some 12, .mv (.tmp 15), none, [], []⟩,
 ⟨some 16, .extr (.tmp 12) 0, none, [], []⟩,
 ⟨some 17, .extr (.tmp 12) 1, none, [], []⟩,
 ⟨some 7, .mv (.tmp 16), none, [], []⟩,
 ⟨some 8, .mv (.tmp 17), none, [], []⟩])
  (.ghost (.kill [12, 13, 14, 15, 16, 17])))
  (.seq (.seq (.seq (.region false [
 ⟨some 18, .mv (.tmp 8), none, [], []⟩,
 ⟨some 19, .un .not (.tmp 18), none, [], []⟩,
 ⟨some 20, .mv (.tmp 19), none, [], []⟩,
 ⟨some 21, .load false 1 (.tmp 2), (some ((some 20), false)), [], []⟩,
 ⟨some 22, .mv (.tmp 7), (some ((some 20), false)), [], []⟩,
 ⟨some 23, .iaddr 5 (.tmp 21) (.tmp 22), (some ((some 20), false)), [], []⟩,
 ⟨some 24, .load true 5 (.tmp 23), (some ((some 20), false)), [], []⟩,
 ⟨some 25, .call true i_cut_WellFormed [(.tmp 24)], (some ((some 20), false)), [], []⟩,
 ⟨some 26, .un .not (.tmp 25), (some ((some 20), false)), [], []⟩,
 ⟨some 27, .pick (.tmp 20) (.cst (.bool true)) (.tmp 26), none, [], []⟩])
  (.ghost (.kill [8, 18, 19, 20, 21, 22, 23, 24, 25, 26])))
  (.cond (.tmp 27) (.seq (.region false [
      ⟨some 6, .mv (.cst (.bool false)), none, [], []⟩])
    .ret)
  .skip))
  (.seq (.seq (.region false [
 ⟨some 28, .load false 1 (.tmp 2), none, [], []⟩,
 ⟨some 29, .mv (.tmp 7), none, [], []⟩,
 ⟨some 30, .iaddr 5 (.tmp 28) (.tmp 29), none, [], []⟩,
 ⟨some 31, .faddr 2 (.tmp 30), none, [], []⟩,
 ⟨some 32, .load false 1 (.tmp 31), none, [], []⟩,
 ⟨some 33, .call false i_slices_Clone_int [(.tmp 32)], none, [], []⟩,
 ⟨some 9, .mv (.tmp 33), none, [], []⟩])
  (.ghost (.kill [7, 27, 28, 29, 30, 31, 32, 33])))
  (.seq (.seq (.region false [
 ⟨some 34, .mv (.tmp 9), none, [], []⟩,
 ⟨some 35, .faddr 0 (.tmp 5), none, [], []⟩,
 ⟨some 36, .load false 1 (.tmp 35), none, [], []⟩,
 ⟨some 37, .faddr 1 (.tmp 5), none, [], []⟩,
 ⟨some 38, .load false 1 (.tmp 37), none, [], []⟩,
 ⟨some 39, .iaddr 1 (.tmp 34) (.tmp 36), none, [], []⟩,
 ⟨none, .store 1 (.tmp 39) (.tmp 38), none, [], []⟩])
  (.ghost (.kill [5, 34, 35, 36, 37, 38, 39])))
  (.seq (.seq (.seq (.region false [
 ⟨some 40, .mv (.tmp 9), none, [], []⟩,
 ⟨some 41, .len .sl (.tmp 40), none, [], []⟩,
 ⟨some 42, .mv (.cst (.int .i64 0)), none, [], []⟩])
  (.ghost (.kill [9])))
  (.seq (.block 0 (.loop cut_Closure_1.b0))
  cut_Closure_1.c1))
  cut_Closure_1.c0))))))
def cut_Closure_1.k1 (m0 : Nat) : List Item := [.inBlock 2, .code (.ghost (.kill [10, 11, 52])), .inBlock 1, .inTrunc m0, .code cut_Closure_1.c2, .inLoop cut_Closure_1.b0, .inBlock 0, .code cut_Closure_1.c1, .code cut_Closure_1.c0]
def cut_Closure_1.k0 : List Item := [.inBlock 0, .code cut_Closure_1.c1, .code cut_Closure_1.c0]
def cut_Closure_1 : AFunc := ⟨69, [.tmp 6], cut_Closure_1.main⟩
/-- slices.pdqsortCmpFunc[int] -/
def slices_pdqsortCmpFunc_int.c0 : ACode := (.seq (.seq (.seq (.region true [
 ⟨some 81, .mv (.tmp 1), none, [], [1]⟩,
 ⟨some 82, .bin .gtr (.tmp 81) (.cst (.int .i64 0)), none, [0], [81]⟩,
 ⟨some 83, .mv (.tmp 82), none, [1], [82]⟩,
 ⟨some 84, .mv (.tmp 4), (some ((some 83), true)), [2], [4]⟩,
 ⟨some 85, .mv (.tmp 0), (some ((some 83), true)), [2], [0]⟩,
 ⟨some 86, .mv (.tmp 1), (some ((some 83), true)), [2], [1]⟩,
 ⟨some 87, .bin .sub (.tmp 86) (.cst (.int .i64 1)), (some ((some 83), true)), [5, 2], [86]⟩,
 ⟨some 88, .iaddr 1 (.tmp 85) (.tmp 87), (some ((some 83), true)), [4, 6, 2], [85, 87]⟩,
 ⟨some 89, .load false 1 (.tmp 88), (some ((some 83), true)), [7, 2], [88]⟩,
 ⟨some 90, .mv (.tmp 0), (some ((some 83), true)), [2], [0]⟩,
 ⟨some 91, .mv (.tmp 13), (some ((some 83), true)), [2], [13]⟩,
 ⟨some 92, .iaddr 1 (.tmp 90) (.tmp 91), (some ((some 83), true)), [9, 10, 2], [90, 91]⟩,
 ⟨some 93, .load false 1 (.tmp 92), (some ((some 83), true)), [11, 2], [92]⟩,
 ⟨some 94, .callv true (.tmp 84) [(.tmp 89), (.tmp 93)], (some ((some 83), true)), [3, 8, 12, 2, 2], [84, 89, 93]⟩,
 ⟨some 95, .bin .lss (.tmp 94) (.cst (.int .i64 0)), (some ((some 83), true)), [13, 2], [94]⟩,
 ⟨some 96, .un .not (.tmp 95), (some ((some 83), true)), [14, 2], [95]⟩,
 ⟨some 97, .pick (.tmp 83) (.tmp 96) (.cst (.bool false)), none, [2, 15], [83, 96]⟩])
  (.ghost (.kill [81, 82, 83, 84, 85, 86, 87, 88, 89, 90, 91, 92, 93, 94, 95, 96])))
  (.cond (.tmp 97) (.seq (.seq (.region false [
      ⟨some 98, .mv (.tmp 0), none, [], []⟩,
      ⟨some 99, .mv (.tmp 1), none, [], []⟩,
      ⟨some 100, .mv (.tmp 2), none, [], []⟩,
      ⟨some 101, .mv (.tmp 13), none, [], []⟩,
      ⟨some 102, .mv (.tmp 4), none, [], []⟩,
      ⟨some 103, .call false i_slices_partitionEqualCmpFunc_int [(.tmp 98), (.tmp 99), (.tmp 100), (.tmp 101), (.tmp 102)], none, [], []⟩,
      ⟨some 15, .mv (.tmp 103), none, [], []⟩])
    (.ghost (.kill [1, 12, 13, 97, 98, 99, 100, 101, 102, 103])))
    (.seq (.seq (.region false [
      ⟨some 104, .mv (.tmp 15), none, [], []⟩,
      ⟨some 1, .mv (.tmp 104), none, [], []⟩])
    (.ghost (.kill [15, 104])))
    (.exit 1)))
  .skip))
  (.seq (.seq (.region false [
 ⟨some 106, .mv (.tmp 0), none, [], []⟩,
 ⟨some 107, .mv (.tmp 1), none, [], []⟩,
 ⟨some 108, .mv (.tmp 2), none, [], []⟩,
 ⟨some 109, .mv (.tmp 13), none, [], []⟩,
 ⟨some 110, .mv (.tmp 4), none, [], []⟩,
 ⟨some 111, .call false i_slices_partitionCmpFunc_int [(.tmp 106), (.tmp 107), (.tmp 108), (.tmp 109), (.tmp 110)], none, [], []⟩,
 ⟨some 105, .mv (.tmp 111), none, [], []⟩,
 ⟨some 112, .extr (.tmp 105) 0, none, [], []⟩,
 ⟨some 113, .extr (.tmp 105) 1, none, [], []⟩,
 ⟨some 16, .mv (.tmp 112), none, [], []⟩,
 ⟨some 17, .mv (.tmp 113), none, [], []⟩])
  (.ghost (.kill [10, 11, 13, 97, 105, 106, 107, 108, 109, 110, 111, 112, 113])))
  (.seq (.seq (.region false [
 ⟨some 114, .mv (.tmp 17), none, [], []⟩,
 ⟨some 11, .mv (.tmp 114), none, [], []⟩])
  (.ghost (.kill [17, 114])))
  (.seq (.seq (.region false [
 ⟨some 115, .mv (.tmp 16), none, [], []⟩,
 ⟨some 116, .mv (.tmp 1), none, [], []⟩,
 ⟨some 117, .bin .sub (.tmp 115) (.tmp 116), none, [], []⟩,
 ⟨some 118, .mv (.tmp 2), none, [], []⟩,
 ⟨some 119, .mv (.tmp 16), none, [], []⟩,
 ⟨some 120, .bin .sub (.tmp 118) (.tmp 119), none, [], []⟩,
 ⟨some 18, .mv (.tmp 117), none, [], []⟩,
 ⟨some 19, .mv (.tmp 120), none, [], []⟩])
  (.ghost (.kill [115, 116, 117, 118, 119, 120])))
  (.seq (.seq (.region false [
 ⟨some 121, .mv (.tmp 12), none, [], []⟩,
 ⟨some 122, .bin .quo (.tmp 121) (.cst (.int .i64 8)), none, [], []⟩,
 ⟨some 20, .mv (.tmp 122), none, [], []⟩])
  (.ghost (.kill [12, 121, 122])))
  (.seq (.seq (.region false [
 ⟨some 123, .mv (.tmp 18), none, [], []⟩,
 ⟨some 124, .mv (.tmp 19), none, [], []⟩,
 ⟨some 125, .bin .lss (.tmp 123) (.tmp 124), none, [], []⟩])
  (.ghost (.kill [123, 124])))
  (.cond (.tmp 125) (.seq (.seq (.region false [
      ⟨some 126, .mv (.tmp 18), none, [], []⟩,
      ⟨some 127, .mv (.tmp 20), none, [], []⟩,
      ⟨some 128, .bin .geq (.tmp 126) (.tmp 127), none, [], []⟩,
      ⟨some 10, .mv (.tmp 128), none, [], []⟩])
    (.ghost (.kill [18, 19, 20, 125, 126, 127, 128])))
    (.seq (.seq (.region false [
      ⟨some 129, .mv (.tmp 0), none, [], []⟩,
      ⟨some 130, .mv (.tmp 1), none, [], []⟩,
      ⟨some 131, .mv (.tmp 16), none, [], []⟩,
      ⟨some 132, .mv (.tmp 3), none, [], []⟩,
      ⟨some 133, .mv (.tmp 4), none, [], []⟩,
      ⟨some 134, .call false i_slices_pdqsortCmpFunc_int [(.tmp 129), (.tmp 130), (.tmp 131), (.tmp 132), (.tmp 133)], none, [], []⟩])
    (.ghost (.kill [1, 129, 130, 131, 132, 133, 134])))
    (.seq (.region false [
      ⟨some 135, .mv (.tmp 16), none, [], []⟩,
      ⟨some 136, .bin .add (.tmp 135) (.cst (.int .i64 1)), none, [], []⟩,
      ⟨some 1, .mv (.tmp 136), none, [], []⟩])
    (.ghost (.kill [16, 135, 136])))))
  (.seq (.seq (.region false [
      ⟨some 137, .mv (.tmp 19), none, [], []⟩,
      ⟨some 138, .mv (.tmp 20), none, [], []⟩,
      ⟨some 139, .bin .geq (.tmp 137) (.tmp 138), none, [], []⟩,
      ⟨some 10, .mv (.tmp 139), none, [], []⟩])
    (.ghost (.kill [18, 19, 20, 125, 137, 138, 139])))
    (.seq (.seq (.region false [
      ⟨some 140, .mv (.tmp 0), none, [], []⟩,
      ⟨some 141, .mv (.tmp 16), none, [], []⟩,
      ⟨some 142, .bin .add (.tmp 141) (.cst (.int .i64 1)), none, [], []⟩,
      ⟨some 143, .mv (.tmp 2), none, [], []⟩,
      ⟨some 144, .mv (.tmp 3), none, [], []⟩,
      ⟨some 145, .mv (.tmp 4), none, [], []⟩,
      ⟨some 146, .call false i_slices_pdqsortCmpFunc_int [(.tmp 140), (.tmp 142), (.tmp 143), (.tmp 144), (.tmp 145)], none, [], []⟩])
    (.ghost (.kill [2, 140, 141, 142, 143, 144, 145, 146])))
    (.seq (.region false [
      ⟨some 147, .mv (.tmp 16), none, [], []⟩,
      ⟨some 2, .mv (.tmp 147), none, [], []⟩])
    (.ghost (.kill [16, 147]))))))))))))
def slices_pdqsortCmpFunc_int.c1 : ACode := (.seq (.seq (.seq (.region false [
 ⟨some 68, .mv (.tmp 10), none, [], []⟩,
 ⟨some 69, .mv (.tmp 68), none, [], []⟩,
 ⟨some 70, .mv (.tmp 11), (some ((some 69), true)), [], []⟩,
 ⟨some 71, .pick (.tmp 69) (.tmp 70) (.cst (.bool false)), none, [], []⟩,
 ⟨some 72, .mv (.tmp 71), none, [], []⟩,
 ⟨some 73, .mv (.tmp 14), (some ((some 72), true)), [], []⟩,
 ⟨some 74, .bin .eql (.tmp 73) (.cst (.int .i64 1)), (some ((some 72), true)), [], []⟩,
 ⟨some 75, .pick (.tmp 72) (.tmp 74) (.cst (.bool false)), none, [], []⟩])
  (.ghost (.kill [14, 68, 69, 70, 71, 72, 73, 74])))
  (.seq (.cond (.tmp 75) (.seq (.seq (.region false [
      ⟨some 76, .mv (.tmp 0), none, [], []⟩,
      ⟨some 77, .mv (.tmp 1), none, [], []⟩,
      ⟨some 78, .mv (.tmp 2), none, [], []⟩,
      ⟨some 79, .mv (.tmp 4), none, [], []⟩,
      ⟨some 80, .call false i_slices_partialInsertionSortCmpFunc_int [(.tmp 76), (.tmp 77), (.tmp 78), (.tmp 79)], none, [], []⟩])
    (.ghost (.kill [75, 76, 77, 78, 79])))
    (.cond (.tmp 80) .ret
    .skip))
  .skip)
  (.ghost (.kill [75, 80]))))
  slices_pdqsortCmpFunc_int.c0)
def slices_pdqsortCmpFunc_int.c2 : ACode := (.seq (.seq (.region false [
 ⟨some 48, .mv (.tmp 0), none, [], []⟩,
 ⟨some 49, .mv (.tmp 1), none, [], []⟩,
 ⟨some 50, .mv (.tmp 2), none, [], []⟩,
 ⟨some 51, .mv (.tmp 4), none, [], []⟩,
 ⟨some 52, .call false i_slices_choosePivotCmpFunc_int [(.tmp 48), (.tmp 49), (.tmp 50), (.tmp 51)], none, [], []⟩,
 ⟨some 47, .mv (.tmp 52), none, [], []⟩,
 ⟨some 53, .extr (.tmp 47) 0, none, [], []⟩,
 ⟨some 54, .extr (.tmp 47) 1, none, [], []⟩,
 ⟨some 13, .mv (.tmp 53), none, [], []⟩,
 ⟨some 14, .mv (.tmp 54), none, [], []⟩])
  (.ghost (.kill [47, 48, 49, 50, 51, 52, 53, 54])))
  (.seq (.seq (.seq (.region false [
 ⟨some 55, .mv (.tmp 14), none, [], []⟩,
 ⟨some 56, .bin .eql (.tmp 55) (.cst (.int .i64 2)), none, [], []⟩])
  (.ghost (.kill [55])))
  (.seq (.cond (.tmp 56) (.seq (.seq (.region false [
      ⟨some 57, .mv (.tmp 0), none, [], []⟩,
      ⟨some 58, .mv (.tmp 1), none, [], []⟩,
      ⟨some 59, .mv (.tmp 2), none, [], []⟩,
      ⟨some 60, .mv (.tmp 4), none, [], []⟩,
      ⟨some 61, .call false i_slices_reverseRangeCmpFunc_int [(.tmp 57), (.tmp 58), (.tmp 59), (.tmp 60)], none, [], []⟩])
    (.ghost (.kill [14, 56, 57, 58, 59, 60, 61])))
    (.seq (.seq (.region false [
      ⟨some 62, .mv (.tmp 2), none, [], []⟩,
      ⟨some 63, .bin .sub (.tmp 62) (.cst (.int .i64 1)), none, [], []⟩,
      ⟨some 64, .mv (.tmp 13), none, [], []⟩,
      ⟨some 65, .mv (.tmp 1), none, [], []⟩,
      ⟨some 66, .bin .sub (.tmp 64) (.tmp 65), none, [], []⟩,
      ⟨some 67, .bin .sub (.tmp 63) (.tmp 66), none, [], []⟩,
      ⟨some 13, .mv (.tmp 67), none, [], []⟩])
    (.ghost (.kill [62, 63, 64, 65, 66, 67])))
    (.region false [
      ⟨some 14, .mv (.cst (.int .i64 1)), none, [], []⟩])))
  .skip)
  (.ghost (.kill [56]))))
  slices_pdqsortCmpFunc_int.c1))
def slices_pdqsortCmpFunc_int.b0 : ACode := (.trunc (.block 1 (.seq (.seq (.region false [
 ⟨some 21, .mv (.tmp 2), none, [], []⟩,
 ⟨some 22, .mv (.tmp 1), none, [], []⟩,
 ⟨some 23, .bin .sub (.tmp 21) (.tmp 22), none, [], []⟩,
 ⟨some 12, .mv (.tmp 23), none, [], []⟩])
  (.ghost (.kill [21, 22, 23])))
  (.seq (.seq (.seq (.region false [
 ⟨some 24, .mv (.tmp 12), none, [], []⟩,
 ⟨some 25, .bin .leq (.tmp 24) (.cst (.int .i64 12)), none, [], []⟩])
  (.ghost (.kill [24])))
  (.cond (.tmp 25) (.seq (.region false [
      ⟨some 26, .mv (.tmp 0), none, [], []⟩,
      ⟨some 27, .mv (.tmp 1), none, [], []⟩,
      ⟨some 28, .mv (.tmp 2), none, [], []⟩,
      ⟨some 29, .mv (.tmp 4), none, [], []⟩,
      ⟨some 30, .call false i_slices_insertionSortCmpFunc_int [(.tmp 26), (.tmp 27), (.tmp 28), (.tmp 29)], none, [], []⟩])
    .ret)
  .skip))
  (.seq (.seq (.seq (.region false [
 ⟨some 31, .mv (.tmp 3), none, [], []⟩,
 ⟨some 32, .bin .eql (.tmp 31) (.cst (.int .i64 0)), none, [], []⟩])
  (.ghost (.kill [25, 31])))
  (.cond (.tmp 32) (.seq (.region false [
      ⟨some 33, .mv (.tmp 0), none, [], []⟩,
      ⟨some 34, .mv (.tmp 1), none, [], []⟩,
      ⟨some 35, .mv (.tmp 2), none, [], []⟩,
      ⟨some 36, .mv (.tmp 4), none, [], []⟩,
      ⟨some 37, .call false i_slices_heapSortCmpFunc_int [(.tmp 33), (.tmp 34), (.tmp 35), (.tmp 36)], none, [], []⟩])
    .ret)
  .skip))
  (.seq (.seq (.seq (.region false [
 ⟨some 38, .mv (.tmp 10), none, [], []⟩,
 ⟨some 39, .un .not (.tmp 38), none, [], []⟩])
  (.ghost (.kill [32, 38])))
  (.seq (.cond (.tmp 39) (.seq (.seq (.region false [
      ⟨some 40, .mv (.tmp 0), none, [], []⟩,
      ⟨some 41, .mv (.tmp 1), none, [], []⟩,
      ⟨some 42, .mv (.tmp 2), none, [], []⟩,
      ⟨some 43, .mv (.tmp 4), none, [], []⟩,
      ⟨some 44, .call false i_slices_breakPatternsCmpFunc_int [(.tmp 40), (.tmp 41), (.tmp 42), (.tmp 43)], none, [], []⟩])
    (.ghost (.kill [39, 40, 41, 42, 43, 44])))
    (.seq (.region false [
      ⟨some 45, .mv (.tmp 3), none, [], []⟩,
      ⟨some 46, .bin .sub (.tmp 45) (.cst (.int .i64 1)), none, [], []⟩,
      ⟨some 3, .mv (.tmp 46), none, [], []⟩])
    (.ghost (.kill [45, 46]))))
  .skip)
  (.ghost (.kill [39]))))
  slices_pdqsortCmpFunc_int.c2))))))
def slices_pdqsortCmpFunc_int.main : ACode := (.seq (.region false [
 ⟨some 10, .mv (.cst (.bool true)), none, [], []⟩])
  (.seq (.region false [
 ⟨some 11, .mv (.cst (.bool true)), none, [], []⟩])
  (.block 0 (.loop slices_pdqsortCmpFunc_int.b0))))
def slices_pdqsortCmpFunc_int.k0 : List Item := [.inBlock 0]
def slices_pdqsortCmpFunc_int : AFunc := ⟨148, [], slices_pdqsortCmpFunc_int.main⟩
/-- math/bits.Len -/
def bits_Len.main : ACode := (.seq (.seq (.region false [
 ⟨some 2, .mv (.cst (.int .i64 0)), none, [], []⟩])
  (.ghost (.kill [2])))
  (.seq (.cond (.cst (.bool false)) (.seq (.region false [
      ⟨some 3, .mv (.tmp 0), none, [], []⟩,
      ⟨some 4, .conv .u32 (.tmp 3), none, [], []⟩,
      ⟨some 5, .call true i_bits_Len32 [(.tmp 4)], none, [], []⟩,
      ⟨some 2, .mv (.tmp 5), none, [], []⟩])
    .ret)
  .skip)
  (.seq (.region false [
 ⟨some 6, .mv (.tmp 0), none, [], []⟩,
 ⟨some 7, .call true i_bits_Len64 [(.tmp 6)], none, [], []⟩,
 ⟨some 2, .mv (.tmp 7), none, [], []⟩])
  .ret)))
def bits_Len : AFunc := ⟨8, [.tmp 2], bits_Len.main⟩
/-- cmp.isNaN[int] -/
def cmp_isNaN_int.main : ACode := (.seq (.seq (.region false [
 ⟨some 2, .mv (.cst (.bool false)), none, [], []⟩])
  (.ghost (.kill [2])))
  (.seq (.region false [
 ⟨some 3, .mv (.tmp 0), none, [], []⟩,
 ⟨some 4, .mv (.tmp 0), none, [], []⟩,
 ⟨some 5, .bin .neq (.tmp 3) (.tmp 4), none, [], []⟩,
 ⟨some 2, .mv (.tmp 5), none, [], []⟩])
  .ret))
def cmp_isNaN_int : AFunc := ⟨6, [.tmp 2], cmp_isNaN_int.main⟩
/-- slices.insertionSortCmpFunc[int] -/
def slices_insertionSortCmpFunc_int.c0 : ACode := (.ghost (.kill [0, 1, 2, 3, 8, 14]))
def slices_insertionSortCmpFunc_int.c1 : ACode := (.seq (.region false [
 ⟨some 15, .mv (.tmp 8), none, [], []⟩,
 ⟨some 16, .bin .add (.tmp 15) (.cst (.int .i64 1)), none, [], []⟩,
 ⟨some 8, .mv (.tmp 16), none, [], []⟩])
  (.ghost (.kill [15, 16])))
def slices_insertionSortCmpFunc_int.b1 : ACode := (.seq (.seq (.seq (.region true [
 ⟨some 18, .mv (.tmp 9), none, [], [9]⟩,
 ⟨some 19, .mv (.tmp 1), none, [], [1]⟩,
 ⟨some 20, .bin .gtr (.tmp 18) (.tmp 19), none, [0, 1], [18, 19]⟩,
 ⟨some 21, .mv (.tmp 20), none, [2], [20]⟩,
 ⟨some 22, .mv (.tmp 3), (some ((some 21), true)), [3], [3]⟩,
 ⟨some 23, .mv (.tmp 0), (some ((some 21), true)), [3], [0]⟩,
 ⟨some 24, .mv (.tmp 9), (some ((some 21), true)), [3], [9]⟩,
 ⟨some 25, .iaddr 1 (.tmp 23) (.tmp 24), (some ((some 21), true)), [5, 6, 3], [23, 24]⟩,
 ⟨some 26, .load false 1 (.tmp 25), (some ((some 21), true)), [7, 3], [25]⟩,
 ⟨some 27, .mv (.tmp 0), (some ((some 21), true)), [3], [0]⟩,
 ⟨some 28, .mv (.tmp 9), (some ((some 21), true)), [3], [9]⟩,
 ⟨some 29, .bin .sub (.tmp 28) (.cst (.int .i64 1)), (some ((some 21), true)), [10, 3], [28]⟩,
 ⟨some 30, .iaddr 1 (.tmp 27) (.tmp 29), (some ((some 21), true)), [9, 11, 3], [27, 29]⟩,
 ⟨some 31, .load false 1 (.tmp 30), (some ((some 21), true)), [12, 3], [30]⟩,
 ⟨some 32, .callv true (.tmp 22) [(.tmp 26), (.tmp 31)], (some ((some 21), true)), [4, 8, 13, 3, 3], [22, 26, 31]⟩,
 ⟨some 33, .bin .lss (.tmp 32) (.cst (.int .i64 0)), (some ((some 21), true)), [14, 3], [32]⟩,
 ⟨some 34, .pick (.tmp 21) (.tmp 33) (.cst (.bool false)), none, [3, 15], [21, 33]⟩])
  (.ghost (.kill [18, 19, 20, 21, 22, 23, 24, 25, 26, 27, 28, 29, 30, 31, 32, 33])))
  (.cond (.tmp 34) .skip
  (.exit 2)))
  (.seq (.block 3 (.seq (.region true [
 ⟨some 37, .mv (.tmp 0), none, [], [0]⟩,
 ⟨some 38, .mv (.tmp 9), none, [], [9]⟩,
 ⟨some 39, .mv (.tmp 0), none, [], [0]⟩,
 ⟨some 40, .mv (.tmp 9), none, [], [9]⟩,
 ⟨some 41, .bin .sub (.tmp 40) (.cst (.int .i64 1)), none, [3], [40]⟩,
 ⟨some 42, .mv (.tmp 0), none, [], [0]⟩,
 ⟨some 43, .mv (.tmp 9), none, [], [9]⟩,
 ⟨some 44, .bin .sub (.tmp 43) (.cst (.int .i64 1)), none, [6], [43]⟩,
 ⟨some 45, .iaddr 1 (.tmp 42) (.tmp 44), none, [5, 7], [42, 44]⟩,
 ⟨some 46, .load false 1 (.tmp 45), none, [8], [45]⟩,
 ⟨some 47, .mv (.tmp 0), none, [], [0]⟩,
 ⟨some 48, .mv (.tmp 9), none, [], [9]⟩,
 ⟨some 49, .iaddr 1 (.tmp 47) (.tmp 48), none, [10, 11], [47, 48]⟩,
 ⟨some 50, .load false 1 (.tmp 49), none, [12], [49]⟩,
 ⟨some 51, .iaddr 1 (.tmp 37) (.tmp 38), none, [0, 1, 0, 1, 5, 6, 7, 8, 9, 13], [37, 38]⟩,
 ⟨none, .store 1 (.tmp 51) (.tmp 46), none, [14, 9, 0, 1, 5, 6, 7, 8, 9, 13], [51, 46]⟩,
 ⟨some 52, .iaddr 1 (.tmp 39) (.tmp 41), none, [2, 4, 0, 1, 2, 3, 4, 5, 6, 7, 8, 9, 10, 11, 12, 13, 14, 15], [39, 41]⟩,
 ⟨none, .store 1 (.tmp 52) (.tmp 50), none, [16, 13, 15, 0, 1, 2, 3, 4, 5, 6, 7, 8, 9, 10, 11, 12, 13, 14, 15], [52, 50]⟩])
  (.ghost (.kill [34, 37, 38, 39, 40, 41, 42, 43, 44, 45, 46, 47, 48, 49, 50, 51, 52]))))
  (.seq (.region false [
 ⟨some 35, .mv (.tmp 9), none, [], []⟩,
 ⟨some 36, .bin .sub (.tmp 35) (.cst (.int .i64 1)), none, [], []⟩,
 ⟨some 9, .mv (.tmp 36), none, [], []⟩])
  (.ghost (.kill [35, 36])))))
def slices_insertionSortCmpFunc_int.b0 : ACode := (.seq (.seq (.seq (.region false [
 ⟨some 12, .mv (.tmp 8), none, [], []⟩,
 ⟨some 13, .mv (.tmp 2), none, [], []⟩,
 ⟨some 14, .bin .lss (.tmp 12) (.tmp 13), none, [], []⟩])
  (.ghost (.kill [12, 13])))
  (.cond (.tmp 14) .skip
  (.exit 0)))
  (.seq (.block 1 (.seq (.seq (.region false [
 ⟨some 17, .mv (.tmp 8), none, [], []⟩,
 ⟨some 9, .mv (.tmp 17), none, [], []⟩])
  (.ghost (.kill [14, 17])))
  (.seq (.block 2 (.loop slices_insertionSortCmpFunc_int.b1))
  (.ghost (.kill [9, 34])))))
  slices_insertionSortCmpFunc_int.c1))
def slices_insertionSortCmpFunc_int.main : ACode := (.seq (.seq (.region false [
 ⟨some 10, .mv (.tmp 1), none, [], []⟩,
 ⟨some 11, .bin .add (.tmp 10) (.cst (.int .i64 1)), none, [], []⟩,
 ⟨some 8, .mv (.tmp 11), none, [], []⟩])
  (.ghost (.kill [10, 11])))
  (.seq (.block 0 (.loop slices_insertionSortCmpFunc_int.b0))
  slices_insertionSortCmpFunc_int.c0))
def slices_insertionSortCmpFunc_int.k1 : List Item := [.inBlock 2, .code (.ghost (.kill [9, 34])), .inBlock 1, .code slices_insertionSortCmpFunc_int.c1, .inLoop slices_insertionSortCmpFunc_int.b0, .inBlock 0, .code slices_insertionSortCmpFunc_int.c0]
def slices_insertionSortCmpFunc_int.k0 : List Item := [.inBlock 0, .code slices_insertionSortCmpFunc_int.c0]
def slices_insertionSortCmpFunc_int : AFunc := ⟨53, [], slices_insertionSortCmpFunc_int.main⟩
/-- math/bits.Len64 -/
def bits_Len64.c0 : ACode := (.seq (.region false [
 ⟨some 19, .mv (.tmp 2), none, [], []⟩,
 ⟨some 20, .mv (.tmp 0), none, [], []⟩,
 ⟨some 21, .conv .u8 (.tmp 20), none, [], []⟩,
 ⟨some 22, .idxS (.cst (.str ⟨#[0, 1, 2, 2, 3, 3, 3, 3, 4, 4, 4, 4, 4, 4, 4, 4, 5, 5, 5, 5, 5, 5, 5, 5, 5, 5, 5, 5, 5, 5, 5, 5, 6, 6, 6, 6, 6, 6, 6, 6, 6, 6, 6, 6, 6, 6, 6, 6, 6, 6, 6, 6, 6, 6, 6, 6, 6, 6, 6, 6, 6, 6, 6, 6, 7, 7, 7, 7, 7, 7, 7, 7, 7, 7, 7, 7, 7, 7, 7, 7, 7, 7, 7, 7, 7, 7, 7, 7, 7, 7, 7, 7, 7, 7, 7, 7, 7, 7, 7, 7, 7, 7, 7, 7, 7, 7, 7, 7, 7, 7, 7, 7, 7, 7, 7, 7, 7, 7, 7, 7, 7, 7, 7, 7, 7, 7, 7, 7, 8, 8, 8, 8, 8, 8, 8, 8, 8, 8, 8, 8, 8, 8, 8, 8, 8, 8, 8, 8, 8, 8, 8, 8, 8, 8, 8, 8, 8, 8, 8, 8, 8, 8, 8, 8, 8, 8, 8, 8, 8, 8, 8, 8, 8, 8, 8, 8, 8, 8, 8, 8, 8, 8, 8, 8, 8, 8, 8, 8, 8, 8, 8, 8, 8, 8, 8, 8, 8, 8, 8, 8, 8, 8, 8, 8, 8, 8, 8, 8, 8, 8, 8, 8, 8, 8, 8, 8, 8, 8, 8, 8, 8, 8, 8, 8, 8, 8, 8, 8, 8, 8, 8, 8, 8, 8, 8, 8, 8, 8, 8, 8, 8, 8, 8, 8, 8, 8, 8, 8, 8, 8, 8, 8, 8, 8, 8, 8]⟩)) (.tmp 21), none, [], []⟩,
 ⟨some 23, .conv .i64 (.tmp 22), none, [], []⟩,
 ⟨some 24, .bin .add (.tmp 19) (.tmp 23), none, [], []⟩,
 ⟨some 2, .mv (.tmp 24), none, [], []⟩])
  .ret)
def bits_Len64.c1 : ACode := (.seq (.seq (.seq (.region false [
 ⟨some 13, .mv (.tmp 0), none, [], []⟩,
 ⟨some 14, .bin .geq (.tmp 13) (.cst (.int .u64 256)), none, [], []⟩])
  (.ghost (.kill [13])))
  (.seq (.cond (.tmp 14) (.seq (.seq (.region false [
      ⟨some 15, .mv (.tmp 0), none, [], []⟩,
      ⟨some 16, .bin .shr (.tmp 15) (.cst (.int .u64 8)), none, [], []⟩,
      ⟨some 0, .mv (.tmp 16), none, [], []⟩])
    (.ghost (.kill [14, 15, 16])))
    (.seq (.region false [
      ⟨some 17, .mv (.tmp 2), none, [], []⟩,
      ⟨some 18, .bin .add (.tmp 17) (.cst (.int .i64 8)), none, [], []⟩,
      ⟨some 2, .mv (.tmp 18), none, [], []⟩])
    (.ghost (.kill [17, 18]))))
  .skip)
  (.ghost (.kill [14]))))
  bits_Len64.c0)
def bits_Len64.c2 : ACode := (.seq (.seq (.seq (.region false [
 ⟨some 7, .mv (.tmp 0), none, [], []⟩,
 ⟨some 8, .bin .geq (.tmp 7) (.cst (.int .u64 65536)), none, [], []⟩])
  (.ghost (.kill [7])))
  (.seq (.cond (.tmp 8) (.seq (.seq (.region false [
      ⟨some 9, .mv (.tmp 0), none, [], []⟩,
      ⟨some 10, .bin .shr (.tmp 9) (.cst (.int .u64 16)), none, [], []⟩,
      ⟨some 0, .mv (.tmp 10), none, [], []⟩])
    (.ghost (.kill [8, 9, 10])))
    (.seq (.region false [
      ⟨some 11, .mv (.tmp 2), none, [], []⟩,
      ⟨some 12, .bin .add (.tmp 11) (.cst (.int .i64 16)), none, [], []⟩,
      ⟨some 2, .mv (.tmp 12), none, [], []⟩])
    (.ghost (.kill [11, 12]))))
  .skip)
  (.ghost (.kill [8]))))
  bits_Len64.c1)
def bits_Len64.main : ACode := (.seq (.region false [
 ⟨some 2, .mv (.cst (.int .i64 0)), none, [], []⟩])
  (.seq (.seq (.seq (.region false [
 ⟨some 3, .mv (.tmp 0), none, [], []⟩,
 ⟨some 4, .bin .geq (.tmp 3) (.cst (.int .u64 4294967296)), none, [], []⟩])
  (.ghost (.kill [3])))
  (.seq (.cond (.tmp 4) (.seq (.seq (.region false [
      ⟨some 5, .mv (.tmp 0), none, [], []⟩,
      ⟨some 6, .bin .shr (.tmp 5) (.cst (.int .u64 32)), none, [], []⟩,
      ⟨some 0, .mv (.tmp 6), none, [], []⟩])
    (.ghost (.kill [2, 4, 5, 6])))
    (.region false [
      ⟨some 2, .mv (.cst (.int .i64 32)), none, [], []⟩]))
  .skip)
  (.ghost (.kill [4]))))
  bits_Len64.c2))
def bits_Len64 : AFunc := ⟨25, [.tmp 2], bits_Len64.main⟩
def T : FuncId → Option AFunc
  | 4 => some l20_CutLattice
  | 5 => some l20_CutGreatest
  | 6 => some l20_CutOrder
  | 7 => some l20_CutCausal
  | 8 => some l20_CutClosures
  | 9 => some l20_examples
  | 10 => some l20_short
  | 11 => some r20_Headers
  | 12 => some l20_spoiled
  | 13 => some r20_CutOf
  | 14 => some r20_Limit
  | 15 => some r20_All
  | 16 => some cut_Valid
  | 17 => some r20_Valid
  | 18 => some cut_Leq
  | 19 => some r20_Leq
  | 20 => some cut_Has
  | 21 => some r20_Has
  | 22 => some r20_Alike
  | 23 => some l20_join
  | 24 => some r20_JoinIn
  | 25 => some l20_meet
  | 26 => some r20_MeetIn
  | 27 => some cut_Consistent
  | 28 => some r20_Consistent
  | 29 => some l20_order
  | 30 => some r20_OrderIn
  | 31 => some cut_Closed
  | 32 => some r20_Closed
  | 33 => some l20_greatest
  | 34 => some r20_GreatestIn
  | 35 => some r20_Same
  | 36 => some cut_WellFormed
  | 37 => some r20_WellFormed
  | 38 => some cut_Sees
  | 39 => some r20_Sees
  | 40 => some cut_Before
  | 41 => some r20_Before
  | 42 => some l20_closure
  | 43 => some r20_ClosureIn
  | 44 => some r20_Shuffled
  | 45 => some l20_fits
  | 46 => some r20_SameNames
  | 47 => some r20_Names
  | 48 => some l20_chosen
  | 49 => some r20_Zero
  | 50 => some r20_Own
  | 51 => some slices_ContainsFunc_int
  | 52 => some cut_Valid_1
  | 53 => some cut_Join
  | 54 => some cut_Meet
  | 55 => some cut_indices
  | 56 => some slices_ContainsFunc_Commit
  | 57 => some cut_Consistent_1
  | 58 => some r20_Find
  | 59 => some r20_known
  | 60 => some cut_Order
  | 61 => some slices_Clone_int
  | 62 => some cut_reach
  | 63 => some slices_Equal_int
  | 64 => some r20_fits
  | 65 => some cut_Greatest
  | 66 => some cut_compare
  | 67 => some r20_Weight
  | 68 => some cut_Closure
  | 69 => some slices_IndexFunc_int
  | 70 => some cut_merge
  | 71 => some cut_Join_1
  | 72 => some cut_Meet_1
  | 73 => some slices_IndexFunc_Commit
  | 74 => some slices_SortFunc_int
  | 75 => some cut_Order_1
  | 76 => some cmp_Or_int
  | 77 => some cmp_Compare_int
  | 78 => some cut_weight
  | 79 => some cut_Closure_1
  | 80 => some slices_pdqsortCmpFunc_int
  | 81 => some bits_Len
  | 82 => some cmp_isNaN_int
  | 83 => some slices_insertionSortCmpFunc_int
  | 92 => some bits_Len64
  | _ => none
theorem T_l20_CutLattice : T i_l20_CutLattice = some l20_CutLattice := rfl
theorem T_l20_CutGreatest : T i_l20_CutGreatest = some l20_CutGreatest := rfl
theorem T_l20_CutOrder : T i_l20_CutOrder = some l20_CutOrder := rfl
theorem T_l20_CutCausal : T i_l20_CutCausal = some l20_CutCausal := rfl
theorem T_l20_CutClosures : T i_l20_CutClosures = some l20_CutClosures := rfl
theorem T_l20_examples : T i_l20_examples = some l20_examples := rfl
theorem T_l20_short : T i_l20_short = some l20_short := rfl
theorem T_r20_Headers : T i_r20_Headers = some r20_Headers := rfl
theorem T_l20_spoiled : T i_l20_spoiled = some l20_spoiled := rfl
theorem T_r20_CutOf : T i_r20_CutOf = some r20_CutOf := rfl
theorem T_r20_Limit : T i_r20_Limit = some r20_Limit := rfl
theorem T_r20_All : T i_r20_All = some r20_All := rfl
theorem T_cut_Valid : T i_cut_Valid = some cut_Valid := rfl
theorem T_r20_Valid : T i_r20_Valid = some r20_Valid := rfl
theorem T_cut_Leq : T i_cut_Leq = some cut_Leq := rfl
theorem T_r20_Leq : T i_r20_Leq = some r20_Leq := rfl
theorem T_cut_Has : T i_cut_Has = some cut_Has := rfl
theorem T_r20_Has : T i_r20_Has = some r20_Has := rfl
theorem T_r20_Alike : T i_r20_Alike = some r20_Alike := rfl
theorem T_l20_join : T i_l20_join = some l20_join := rfl
theorem T_r20_JoinIn : T i_r20_JoinIn = some r20_JoinIn := rfl
theorem T_l20_meet : T i_l20_meet = some l20_meet := rfl
theorem T_r20_MeetIn : T i_r20_MeetIn = some r20_MeetIn := rfl
theorem T_cut_Consistent : T i_cut_Consistent = some cut_Consistent := rfl
theorem T_r20_Consistent : T i_r20_Consistent = some r20_Consistent := rfl
theorem T_l20_order : T i_l20_order = some l20_order := rfl
theorem T_r20_OrderIn : T i_r20_OrderIn = some r20_OrderIn := rfl
theorem T_cut_Closed : T i_cut_Closed = some cut_Closed := rfl
theorem T_r20_Closed : T i_r20_Closed = some r20_Closed := rfl
theorem T_l20_greatest : T i_l20_greatest = some l20_greatest := rfl
theorem T_r20_GreatestIn : T i_r20_GreatestIn = some r20_GreatestIn := rfl
theorem T_r20_Same : T i_r20_Same = some r20_Same := rfl
theorem T_cut_WellFormed : T i_cut_WellFormed = some cut_WellFormed := rfl
theorem T_r20_WellFormed : T i_r20_WellFormed = some r20_WellFormed := rfl
theorem T_cut_Sees : T i_cut_Sees = some cut_Sees := rfl
theorem T_r20_Sees : T i_r20_Sees = some r20_Sees := rfl
theorem T_cut_Before : T i_cut_Before = some cut_Before := rfl
theorem T_r20_Before : T i_r20_Before = some r20_Before := rfl
theorem T_l20_closure : T i_l20_closure = some l20_closure := rfl
theorem T_r20_ClosureIn : T i_r20_ClosureIn = some r20_ClosureIn := rfl
theorem T_r20_Shuffled : T i_r20_Shuffled = some r20_Shuffled := rfl
theorem T_l20_fits : T i_l20_fits = some l20_fits := rfl
theorem T_r20_SameNames : T i_r20_SameNames = some r20_SameNames := rfl
theorem T_r20_Names : T i_r20_Names = some r20_Names := rfl
theorem T_l20_chosen : T i_l20_chosen = some l20_chosen := rfl
theorem T_r20_Zero : T i_r20_Zero = some r20_Zero := rfl
theorem T_r20_Own : T i_r20_Own = some r20_Own := rfl
theorem T_slices_ContainsFunc_int : T i_slices_ContainsFunc_int = some slices_ContainsFunc_int := rfl
theorem T_cut_Valid_1 : T i_cut_Valid_1 = some cut_Valid_1 := rfl
theorem T_cut_Join : T i_cut_Join = some cut_Join := rfl
theorem T_cut_Meet : T i_cut_Meet = some cut_Meet := rfl
theorem T_cut_indices : T i_cut_indices = some cut_indices := rfl
theorem T_slices_ContainsFunc_Commit : T i_slices_ContainsFunc_Commit = some slices_ContainsFunc_Commit := rfl
theorem T_cut_Consistent_1 : T i_cut_Consistent_1 = some cut_Consistent_1 := rfl
theorem T_r20_Find : T i_r20_Find = some r20_Find := rfl
theorem T_r20_known : T i_r20_known = some r20_known := rfl
theorem T_cut_Order : T i_cut_Order = some cut_Order := rfl
theorem T_slices_Clone_int : T i_slices_Clone_int = some slices_Clone_int := rfl
theorem T_cut_reach : T i_cut_reach = some cut_reach := rfl
theorem T_slices_Equal_int : T i_slices_Equal_int = some slices_Equal_int := rfl
theorem T_r20_fits : T i_r20_fits = some r20_fits := rfl
theorem T_cut_Greatest : T i_cut_Greatest = some cut_Greatest := rfl
theorem T_cut_compare : T i_cut_compare = some cut_compare := rfl
theorem T_r20_Weight : T i_r20_Weight = some r20_Weight := rfl
theorem T_cut_Closure : T i_cut_Closure = some cut_Closure := rfl
theorem T_slices_IndexFunc_int : T i_slices_IndexFunc_int = some slices_IndexFunc_int := rfl
theorem T_cut_merge : T i_cut_merge = some cut_merge := rfl
theorem T_cut_Join_1 : T i_cut_Join_1 = some cut_Join_1 := rfl
theorem T_cut_Meet_1 : T i_cut_Meet_1 = some cut_Meet_1 := rfl
theorem T_slices_IndexFunc_Commit : T i_slices_IndexFunc_Commit = some slices_IndexFunc_Commit := rfl
theorem T_slices_SortFunc_int : T i_slices_SortFunc_int = some slices_SortFunc_int := rfl
theorem T_cut_Order_1 : T i_cut_Order_1 = some cut_Order_1 := rfl
theorem T_cmp_Or_int : T i_cmp_Or_int = some cmp_Or_int := rfl
theorem T_cmp_Compare_int : T i_cmp_Compare_int = some cmp_Compare_int := rfl
theorem T_cut_weight : T i_cut_weight = some cut_weight := rfl
theorem T_cut_Closure_1 : T i_cut_Closure_1 = some cut_Closure_1 := rfl
theorem T_slices_pdqsortCmpFunc_int : T i_slices_pdqsortCmpFunc_int = some slices_pdqsortCmpFunc_int := rfl
theorem T_bits_Len : T i_bits_Len = some bits_Len := rfl
theorem T_cmp_isNaN_int : T i_cmp_isNaN_int = some cmp_isNaN_int := rfl
theorem T_slices_insertionSortCmpFunc_int : T i_slices_insertionSortCmpFunc_int = some slices_insertionSortCmpFunc_int := rfl
theorem T_bits_Len64 : T i_bits_Len64 = some bits_Len64 := rfl
end Go.Abs
