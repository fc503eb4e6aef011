/- The functions of the program as terms of the abstract machine, printed by wip/gen/gen.py, with marks. -/
import Derived.Test.YtjfiifcehdjhpaaJAbsCore
set_option linter.all false
namespace Go.Abs
open Go
def i_l40_JoinMatchesReference : FuncId := 3
def i_l40_JoinEquivalent : FuncId := 4
def i_Xq18 : FuncId := 5
def i_Xq24 : FuncId := 6
def i_l40_JoinParts : FuncId := 7
def i_Xq15 : FuncId := 8
def i_Xq29 : FuncId := 9
def i_l40_small : FuncId := 10
def i_l40_repeated : FuncId := 11
def i_Xq56 : FuncId := 12
def i_Xq61 : FuncId := 13
def i_Xq59 : FuncId := 14
def i_Xq47 : FuncId := 15
def i_r40_NestedIn : FuncId := 16
def i_Xq67 : FuncId := 17
def i_Xq44 : FuncId := 18
def i_r40_MergeIn : FuncId := 19
def i_Xq66 : FuncId := 20
def i_r40_SemiIn : FuncId := 21
def i_Xq62 : FuncId := 22
def i_r40_AntiIn : FuncId := 23
def i_Xq49 : FuncId := 24
def i_r40_OuterIn : FuncId := 25
def i_r40_Sort : FuncId := 26
def i_Xq39 : FuncId := 27
def i_Xq63 : FuncId := 28
def i_Xq32 : FuncId := 29
def i_Xq43 : FuncId := 30
def i_Xq68 : FuncId := 31
def i_Xq69 : FuncId := 32
def i_Xq65 : FuncId := 33
def i_Xq35 : FuncId := 34
def i_r40_fit : FuncId := 35
def i_r40_Partners : FuncId := 36
def i_Xq55 : FuncId := 37
def i_Xq42 : FuncId := 38
def i_Xq57 : FuncId := 39
def i_r40_some : FuncId := 40
def i_Xq54 : FuncId := 41
def i_Xq40 : FuncId := 42
def i_Xq70 : FuncId := 43
def i_Xq36 : FuncId := 44
def i_Xq13 : FuncId := 45
def i_Xq3 : FuncId := 46
def i_Xq38 : FuncId := 47
def i_Xq64 : FuncId := 48
def i_Xq58 : FuncId := 49
def i_Xq27 : FuncId := 50
def i_Xq52 : FuncId := 51
def i_r40_Has : FuncId := 52
def i_Xq48 : FuncId := 53
def i_Xq31 : FuncId := 54
def i_Xq21 : FuncId := 55
def i_Xq51 : FuncId := 56
def i_Xq7 : FuncId := 57
def i_Xq46 : FuncId := 58
def i_Xq50 : FuncId := 59
def i_r40_partner : FuncId := 60
def i_Xq60 : FuncId := 61
def i_Xq34 : FuncId := 62
def i_Xq4 : FuncId := 63
def i_Xq25 : FuncId := 64
def i_Xq41 : FuncId := 65
def i_Xq23 : FuncId := 66
def i_Xq17 : FuncId := 67
def i_Xq45 : FuncId := 68
def i_Xq6 : FuncId := 69
def i_Xq33 : FuncId := 70
def i_Xq53 : FuncId := 71
def i_Xq37 : FuncId := 72
def i_Xq22 : FuncId := 73
def i_Xq30 : FuncId := 74
def i_Xq12 : FuncId := 75
def i_Xq20 : FuncId := 76
def i_Xq19 : FuncId := 77
def i_Xq14 : FuncId := 78
def i_Xq28 : FuncId := 79
def i_Xq0 : FuncId := 80
def i_Xq2 : FuncId := 81
def i_Xq8 : FuncId := 82
def i_Xq9 : FuncId := 83
def i_Xq10 : FuncId := 84
def i_Xq11 : FuncId := 85
def i_Xq26 : FuncId := 86
def i_Xq16 : FuncId := 87
def i_Xq5 : FuncId := 88
def i_Xq1 : FuncId := 89
def Xq18.c0 : ACode := (.seq (.region false [
 ⟨some 190, .mv (.tmp 8), none, [], []⟩,
 ⟨some 191, .faddr 0 (.tmp 5), none, [], []⟩,
 ⟨some 192, .load false 1 (.tmp 191), none, [], []⟩,
 ⟨some 193, .len .sl (.tmp 192), none, [], []⟩,
 ⟨some 194, .bin .eql (.tmp 190) (.tmp 193), none, [], []⟩,
 ⟨some 195, .mv (.tmp 194), none, [], []⟩,
 ⟨some 196, .mv (.tmp 9), (some ((some 195), true)), [], []⟩,
 ⟨some 197, .faddr 0 (.tmp 6), (some ((some 195), true)), [], []⟩,
 ⟨some 198, .load false 1 (.tmp 197), (some ((some 195), true)), [], []⟩,
 ⟨some 199, .len .sl (.tmp 198), (some ((some 195), true)), [], []⟩,
 ⟨some 200, .bin .eql (.tmp 196) (.tmp 199), (some ((some 195), true)), [], []⟩,
 ⟨some 201, .pick (.tmp 195) (.tmp 200) (.cst (.bool false)), none, [], []⟩,
 ⟨some 202, .mv (.tmp 201), none, [], []⟩,
 ⟨some 203, .mv (.tmp 3), (some ((some 202), true)), [], []⟩,
 ⟨some 204, .pick (.tmp 202) (.tmp 203) (.cst (.bool false)), none, [], []⟩,
 ⟨some 2, .mv (.tmp 204), none, [], []⟩])
 .ret)
def Xq18.c1 : ACode := (.ghost (.kill [1, 4, 7, 12, 13, 131]))
def Xq18.b1 : ACode := (.seq (.seq (.seq (.region false [
 ⟨some 127, .mv (.tmp 13), none, [], []⟩,
 ⟨some 128, .faddr 0 (.tmp 7), none, [], []⟩,
 ⟨some 129, .load false 1 (.tmp 128), none, [], []⟩,
 ⟨some 130, .len .sl (.tmp 129), none, [], []⟩,
 ⟨some 131, .bin .lss (.tmp 127) (.tmp 130), none, [], []⟩])
 (.ghost (.kill [127, 128, 129, 130])))
 (.cond (.tmp 131) .skip
 (.exit 2)))
 (.seq (.seq (.block 3 (.seq (.seq (.region false [
 ⟨some 134, .faddr 0 (.tmp 7), none, [], []⟩,
 ⟨some 135, .load false 1 (.tmp 134), none, [], []⟩,
 ⟨some 136, .mv (.tmp 13), none, [], []⟩,
 ⟨some 137, .iaddr 1 (.tmp 135) (.tmp 136), none, [], []⟩,
 ⟨some 138, .load false 1 (.tmp 137), none, [], []⟩,
 ⟨some 14, .mv (.tmp 138), none, [], []⟩])
 (.ghost (.kill [131, 134, 135, 136, 137, 138])))
 (.seq (.seq (.region true [
 ⟨some 139, .mv (.tmp 14), none, [], [14]⟩,
 ⟨some 140, .len .sl (.tmp 139), none, [0], [139]⟩,
 ⟨some 141, .mv (.tmp 12), none, [], [12]⟩,
 ⟨some 142, .bin .add (.tmp 141) (.cst (.int .i64 1)), none, [2], [141]⟩,
 ⟨some 143, .faddr 3 (.tmp 1), none, [], [1]⟩,
 ⟨some 144, .load false 1 (.tmp 143), none, [4], [143]⟩,
 ⟨some 145, .bin .rem (.tmp 144) (.cst (.int .u8 3)), none, [5], [144]⟩,
 ⟨some 146, .conv .i64 (.tmp 145), none, [6], [145]⟩,
 ⟨some 147, .bin .add (.tmp 142) (.tmp 146), none, [3, 7], [142, 146]⟩,
 ⟨some 148, .bin .neq (.tmp 140) (.tmp 147), none, [1, 8], [140, 147]⟩,
 ⟨some 149, .mv (.tmp 148), none, [9], [148]⟩,
 ⟨some 150, .mv (.tmp 14), (some ((some 149), false)), [10], [14]⟩,
 ⟨some 151, .faddr 2 (.tmp 4), (some ((some 149), false)), [10], [4]⟩,
 ⟨some 152, .iaddrA 2 1 (.tmp 151) (.cst (.int .i64 0)), (some ((some 149), false)), [12, 10], [151]⟩,
 ⟨some 153, .load false 1 (.tmp 152), (some ((some 149), false)), [13, 10], [152]⟩,
 ⟨some 154, .iaddr 3 (.tmp 150) (.tmp 153), (some ((some 149), false)), [11, 14, 10], [150, 153]⟩,
 ⟨some 155, .faddr 0 (.tmp 154), (some ((some 149), false)), [15, 10], [154]⟩,
 ⟨some 156, .load false 1 (.tmp 155), (some ((some 149), false)), [16, 10], [155]⟩,
 ⟨some 157, .bin .eql (.tmp 156) (.cst (.int .i64 0)), (some ((some 149), false)), [17, 10], [156]⟩,
 ⟨some 158, .pick (.tmp 149) (.cst (.bool true)) (.tmp 157), none, [10, 18], [149, 157]⟩,
 ⟨some 159, .mv (.tmp 158), none, [19, 10], [158]⟩,
 ⟨some 160, .mv (.tmp 14), (some ((some 159), false)), [20], [14]⟩,
 ⟨some 161, .faddr 2 (.tmp 4), (some ((some 159), false)), [20], [4]⟩,
 ⟨some 162, .iaddrA 2 1 (.tmp 161) (.cst (.int .i64 0)), (some ((some 159), false)), [22, 20], [161]⟩,
 ⟨some 163, .load false 1 (.tmp 162), (some ((some 159), false)), [23, 20], [162]⟩,
 ⟨some 164, .iaddr 3 (.tmp 160) (.tmp 163), (some ((some 159), false)), [21, 24, 20], [160, 163]⟩,
 ⟨some 165, .load true 3 (.tmp 164), (some ((some 159), false)), [25, 20], [164]⟩,
 ⟨some 166, .mv (.tmp 14), (some ((some 159), false)), [20], [14]⟩,
 ⟨some 167, .mv (.tmp 12), (some ((some 159), false)), [20], [12]⟩,
 ⟨some 168, .faddr 2 (.tmp 4), (some ((some 159), false)), [20], [4]⟩,
 ⟨some 169, .iaddrA 2 1 (.tmp 168) (.cst (.int .i64 1)), (some ((some 159), false)), [29, 20], [168]⟩,
 ⟨some 170, .load false 1 (.tmp 169), (some ((some 159), false)), [30, 20], [169]⟩,
 ⟨some 171, .bin .add (.tmp 167) (.tmp 170), (some ((some 159), false)), [28, 31, 20], [167, 170]⟩,
 ⟨some 172, .iaddr 3 (.tmp 166) (.tmp 171), (some ((some 159), false)), [27, 32, 20], [166, 171]⟩,
 ⟨some 173, .load true 3 (.tmp 172), (some ((some 159), false)), [33, 20], [172]⟩,
 ⟨some 174, .eqs true (.row [(0, 1, false, (.int .i64)), (1, 1, false, (.int .i64)), (2, 1, false, .str)]) (.tmp 165) (.tmp 173), (some ((some 159), false)), [26, 34, 20], [165, 173]⟩,
 ⟨some 175, .pick (.tmp 159) (.cst (.bool true)) (.tmp 174), none, [20, 35], [159, 174]⟩,
 ⟨some 176, .mv (.tmp 175), none, [36, 20], [175]⟩,
 ⟨some 177, .mv (.tmp 14), (some ((some 176), false)), [37], [14]⟩,
 ⟨some 178, .mv (.tmp 12), (some ((some 176), false)), [37], [12]⟩,
 ⟨some 179, .slice 3 (.tmp 177) none (some (.tmp 178)) none, (some ((some 176), false)), [38, 39, 37], [177, 178]⟩,
 ⟨some 180, .flist 1 1 [.nils] [(0, (.tmp 179))], (some ((some 176), false)), [40, 37], [179]⟩,
 ⟨some 181, .faddr 1 (.tmp 4), (some ((some 176), false)), [37], [4]⟩,
 ⟨some 182, .load false 1 (.tmp 181), (some ((some 176), false)), [42, 37], [181]⟩,
 ⟨some 183, .faddr 2 (.tmp 4), (some ((some 176), false)), [37], [4]⟩,
 ⟨some 184, .load true 2 (.tmp 183), (some ((some 176), false)), [44, 37], [183]⟩,
 ⟨some 185, .call true i_Xq66 [(.tmp 180), (.tmp 182), (.tmp 184)], (some ((some 176), false)), [41, 43, 45, 37, 37], [180, 182, 184]⟩,
 ⟨some 186, .field 0 1 false (.tmp 185), (some ((some 176), false)), [46, 37], [185]⟩,
 ⟨some 187, .len .sl (.tmp 186), (some ((some 176), false)), [47, 37], [186]⟩,
 ⟨some 188, .bin .neq (.tmp 187) (.cst (.int .i64 1)), (some ((some 176), false)), [48, 37], [187]⟩,
 ⟨some 189, .pick (.tmp 176) (.cst (.bool true)) (.tmp 188), none, [37, 49], [176, 188]⟩])
 (.ghost (.kill [14, 139, 140, 141, 142, 143, 144, 145, 146, 147, 148, 149, 150, 151, 152, 153, 154, 155, 156, 157, 158, 159, 160, 161, 162, 163, 164, 165, 166, 167, 168, 169, 170, 171, 172, 173, 174, 175, 176, 177, 178, 179, 180, 181, 182, 183, 184, 185, 186, 187, 188])))
 (.cond (.tmp 189) (.seq (.region false [
   ⟨some 2, .mv (.cst (.bool false)), none, [], []⟩])
  .ret)
 .skip))))
 (.ghost (.kill [189])))
 (.seq (.region false [
 ⟨some 132, .mv (.tmp 13), none, [], []⟩,
 ⟨some 133, .bin .add (.tmp 132) (.cst (.int .i64 1)), none, [], []⟩,
 ⟨some 13, .mv (.tmp 133), none, [], []⟩])
 (.ghost (.kill [132, 133])))))
def Xq18.c2 : ACode := (.seq (.seq (.region false [
 ⟨some 122, .faddr 2 (.tmp 1), none, [], []⟩,
 ⟨some 123, .load false 1 (.tmp 122), none, [], []⟩,
 ⟨some 124, .bin .rem (.tmp 123) (.cst (.int .u8 3)), none, [], []⟩,
 ⟨some 125, .conv .i64 (.tmp 124), none, [], []⟩,
 ⟨some 126, .bin .add (.cst (.int .i64 1)) (.tmp 125), none, [], []⟩,
 ⟨some 12, .mv (.tmp 126), none, [], []⟩])
 (.ghost (.kill [122, 123, 124, 125, 126])))
 (.seq (.seq (.region false [
 ⟨some 13, .mv (.cst (.int .i64 0)), none, [], []⟩])
 (.seq (.block 2 (.loop Xq18.b1))
 Xq18.c1))
 Xq18.c0))
def Xq18.c3 : ACode := (.seq (.region false [
 ⟨some 59, .mv (.tmp 10), none, [], []⟩,
 ⟨some 60, .bin .add (.tmp 59) (.cst (.int .i64 1)), none, [], []⟩,
 ⟨some 10, .mv (.tmp 60), none, [], []⟩])
 (.ghost (.kill [59, 60])))
def Xq18.b0 : ACode := (.seq (.seq (.seq (.region false [
 ⟨some 54, .mv (.tmp 10), none, [], []⟩,
 ⟨some 55, .faddr 0 (.tmp 4), none, [], []⟩,
 ⟨some 56, .load false 1 (.tmp 55), none, [], []⟩,
 ⟨some 57, .len .sl (.tmp 56), none, [], []⟩,
 ⟨some 58, .bin .lss (.tmp 54) (.tmp 57), none, [], []⟩])
 (.ghost (.kill [54, 55, 56, 57])))
 (.cond (.tmp 58) .skip
 (.exit 0)))
 (.seq (.block 1 (.seq (.seq (.region true [
 ⟨some 61, .faddr 0 (.tmp 4), none, [], [4]⟩,
 ⟨some 62, .load false 1 (.tmp 61), none, [0], [61]⟩,
 ⟨some 63, .mv (.tmp 10), none, [], [10]⟩,
 ⟨some 64, .mv (.tmp 10), none, [], [10]⟩,
 ⟨some 65, .bin .add (.tmp 64) (.cst (.int .i64 1)), none, [3], [64]⟩,
 ⟨some 66, .slice 1 (.tmp 62) (some (.tmp 63)) (some (.tmp 65)) none, none, [1, 2, 4], [62, 63, 65]⟩,
 ⟨some 67, .faddr 1 (.tmp 4), none, [], [4]⟩,
 ⟨some 68, .load false 1 (.tmp 67), none, [6], [67]⟩,
 ⟨some 69, .faddr 2 (.tmp 4), none, [], [4]⟩,
 ⟨some 70, .load true 2 (.tmp 69), none, [8], [69]⟩,
 ⟨some 71, .call true i_Xq47 [(.tmp 66), (.tmp 68), (.tmp 70)], none, [5, 7, 9], [66, 68, 70]⟩,
 ⟨some 72, .field 0 1 false (.tmp 71), none, [10], [71]⟩,
 ⟨some 73, .len .sl (.tmp 72), none, [11], [72]⟩,
 ⟨some 11, .mv (.tmp 73), none, [12, 10, 0, 1, 2, 3, 4, 5, 6, 7, 8, 9, 10, 11, 12], [73]⟩])
 (.ghost (.kill [58, 61, 62, 63, 64, 65, 66, 67, 68, 69, 70, 71, 72, 73])))
 (.seq (.seq (.region true [
 ⟨some 74, .mv (.tmp 11), none, [], [11]⟩,
 ⟨some 75, .bin .gtr (.tmp 74) (.cst (.int .i64 0)), none, [0], [74]⟩,
 ⟨some 76, .mv (.tmp 75), none, [1], [75]⟩,
 ⟨some 77, .mv (.tmp 8), (some ((some 76), true)), [2], [8]⟩,
 ⟨some 78, .faddr 0 (.tmp 5), (some ((some 76), true)), [2], [5]⟩,
 ⟨some 79, .load false 1 (.tmp 78), (some ((some 76), true)), [4, 2], [78]⟩,
 ⟨some 80, .len .sl (.tmp 79), (some ((some 76), true)), [5, 2], [79]⟩,
 ⟨some 81, .bin .lss (.tmp 77) (.tmp 80), (some ((some 76), true)), [3, 6, 2], [77, 80]⟩,
 ⟨some 82, .pick (.tmp 76) (.tmp 81) (.cst (.bool false)), none, [2, 7], [76, 81]⟩,
 ⟨some 83, .mv (.tmp 82), none, [8, 2], [82]⟩,
 ⟨some 84, .faddr 0 (.tmp 5), (some ((some 83), true)), [9], [5]⟩,
 ⟨some 85, .load false 1 (.tmp 84), (some ((some 83), true)), [10, 9], [84]⟩,
 ⟨some 86, .mv (.tmp 8), (some ((some 83), true)), [9], [8]⟩,
 ⟨some 87, .iaddr 1 (.tmp 85) (.tmp 86), (some ((some 83), true)), [11, 12, 9], [85, 86]⟩,
 ⟨some 88, .load false 1 (.tmp 87), (some ((some 83), true)), [13, 9], [87]⟩,
 ⟨some 89, .faddr 0 (.tmp 4), (some ((some 83), true)), [9], [4]⟩,
 ⟨some 90, .load false 1 (.tmp 89), (some ((some 83), true)), [15, 9], [89]⟩,
 ⟨some 91, .mv (.tmp 10), (some ((some 83), true)), [9], [10]⟩,
 ⟨some 92, .iaddr 1 (.tmp 90) (.tmp 91), (some ((some 83), true)), [16, 17, 9], [90, 91]⟩,
 ⟨some 93, .load false 1 (.tmp 92), (some ((some 83), true)), [18, 9], [92]⟩,
 ⟨some 94, .call true i_Xq63 [(.tmp 88), (.tmp 93)], (some ((some 83), true)), [14, 19, 9, 9], [88, 93]⟩,
 ⟨some 95, .pick (.tmp 83) (.tmp 94) (.cst (.bool false)), none, [9, 20], [83, 94]⟩])
 (.ghost (.kill [74, 75, 76, 77, 78, 79, 80, 81, 82, 83, 84, 85, 86, 87, 88, 89, 90, 91, 92, 93, 94])))
 (.cond (.tmp 95) (.seq (.region false [
   ⟨some 96, .mv (.tmp 8), none, [], []⟩,
   ⟨some 97, .bin .add (.tmp 96) (.cst (.int .i64 1)), none, [], []⟩,
   ⟨some 8, .mv (.tmp 97), none, [], []⟩])
  (.ghost (.kill [11, 95, 96, 97])))
 (.seq (.seq (.region true [
   ⟨some 98, .mv (.tmp 11), none, [], [11]⟩,
   ⟨some 99, .bin .eql (.tmp 98) (.cst (.int .i64 0)), none, [0], [98]⟩,
   ⟨some 100, .mv (.tmp 99), none, [1], [99]⟩,
   ⟨some 101, .mv (.tmp 9), (some ((some 100), true)), [2], [9]⟩,
   ⟨some 102, .faddr 0 (.tmp 6), (some ((some 100), true)), [2], [6]⟩,
   ⟨some 103, .load false 1 (.tmp 102), (some ((some 100), true)), [4, 2], [102]⟩,
   ⟨some 104, .len .sl (.tmp 103), (some ((some 100), true)), [5, 2], [103]⟩,
   ⟨some 105, .bin .lss (.tmp 101) (.tmp 104), (some ((some 100), true)), [3, 6, 2], [101, 104]⟩,
   ⟨some 106, .pick (.tmp 100) (.tmp 105) (.cst (.bool false)), none, [2, 7], [100, 105]⟩,
   ⟨some 107, .mv (.tmp 106), none, [8, 2], [106]⟩,
   ⟨some 108, .faddr 0 (.tmp 6), (some ((some 107), true)), [9], [6]⟩,
   ⟨some 109, .load false 1 (.tmp 108), (some ((some 107), true)), [10, 9], [108]⟩,
   ⟨some 110, .mv (.tmp 9), (some ((some 107), true)), [9], [9]⟩,
   ⟨some 111, .iaddr 1 (.tmp 109) (.tmp 110), (some ((some 107), true)), [11, 12, 9], [109, 110]⟩,
   ⟨some 112, .load false 1 (.tmp 111), (some ((some 107), true)), [13, 9], [111]⟩,
   ⟨some 113, .faddr 0 (.tmp 4), (some ((some 107), true)), [9], [4]⟩,
   ⟨some 114, .load false 1 (.tmp 113), (some ((some 107), true)), [15, 9], [113]⟩,
   ⟨some 115, .mv (.tmp 10), (some ((some 107), true)), [9], [10]⟩,
   ⟨some 116, .iaddr 1 (.tmp 114) (.tmp 115), (some ((some 107), true)), [16, 17, 9], [114, 115]⟩,
   ⟨some 117, .load false 1 (.tmp 116), (some ((some 107), true)), [18, 9], [116]⟩,
   ⟨some 118, .call true i_Xq63 [(.tmp 112), (.tmp 117)], (some ((some 107), true)), [14, 19, 9, 9], [112, 117]⟩,
   ⟨some 119, .pick (.tmp 107) (.tmp 118) (.cst (.bool false)), none, [9, 20], [107, 118]⟩])
  (.ghost (.kill [11, 95, 98, 99, 100, 101, 102, 103, 104, 105, 106, 107, 108, 109, 110, 111, 112, 113, 114, 115, 116, 117, 118])))
  (.cond (.tmp 119) (.seq (.region false [
    ⟨some 120, .mv (.tmp 9), none, [], []⟩,
    ⟨some 121, .bin .add (.tmp 120) (.cst (.int .i64 1)), none, [], []⟩,
    ⟨some 9, .mv (.tmp 121), none, [], []⟩])
   (.ghost (.kill [119, 120, 121])))
  (.seq (.region false [
    ⟨some 2, .mv (.cst (.bool false)), none, [], []⟩])
   .ret)))))))
 Xq18.c3))
def Xq18.main : ACode := (.seq (.seq (.region false [
 ⟨some 1, .box 6 (.tmp 0), none, [], []⟩,
 ⟨some 2, .mv (.cst (.bool false)), none, [], []⟩])
 (.ghost (.kill [0, 2])))
 (.seq (.seq (.region false [
 ⟨some 15, .call true i_Xq29 [], none, [], []⟩,
 ⟨some 3, .mv (.tmp 15), none, [], []⟩])
 (.ghost (.kill [15])))
 (.seq (.seq (.seq (.region false [
 ⟨some 16, .mv (.tmp 3), none, [], []⟩,
 ⟨some 17, .un .not (.tmp 16), none, [], []⟩])
 (.ghost (.kill [16])))
 (.cond (.tmp 17) (.seq (.region false [
   ⟨some 2, .mv (.cst (.bool false)), none, [], []⟩])
  .ret)
 .skip))
 (.seq (.seq (.region false [
 ⟨some 18, .load true 6 (.tmp 1), none, [], []⟩,
 ⟨some 19, .call true i_Xq61 [(.tmp 18)], none, [], []⟩,
 ⟨some 4, .alloc [.nils, .nils, (.int .i64 0), (.int .i64 0)], none, [], []⟩,
 ⟨none, .store 4 (.tmp 4) (.tmp 19), none, [], []⟩])
 (.ghost (.kill [17, 18, 19])))
 (.seq (.seq (.region true [
 ⟨some 20, .faddr 0 (.tmp 4), none, [], [4]⟩,
 ⟨some 21, .load false 1 (.tmp 20), none, [0], [20]⟩,
 ⟨some 22, .faddr 1 (.tmp 4), none, [], [4]⟩,
 ⟨some 23, .load false 1 (.tmp 22), none, [2], [22]⟩,
 ⟨some 24, .faddr 2 (.tmp 4), none, [], [4]⟩,
 ⟨some 25, .load true 2 (.tmp 24), none, [4], [24]⟩,
 ⟨some 26, .call true i_Xq66 [(.tmp 21), (.tmp 23), (.tmp 25)], none, [1, 3, 5], [21, 23, 25]⟩,
 ⟨some 27, .faddr 0 (.tmp 4), none, [], [4]⟩,
 ⟨some 28, .load false 1 (.tmp 27), none, [7], [27]⟩,
 ⟨some 29, .faddr 1 (.tmp 4), none, [], [4]⟩,
 ⟨some 30, .load false 1 (.tmp 29), none, [9], [29]⟩,
 ⟨some 31, .faddr 2 (.tmp 4), none, [], [4]⟩,
 ⟨some 32, .load true 2 (.tmp 31), none, [11], [31]⟩,
 ⟨some 33, .call true i_Xq62 [(.tmp 28), (.tmp 30), (.tmp 32)], none, [8, 10, 12, 6], [28, 30, 32]⟩,
 ⟨some 34, .faddr 0 (.tmp 4), none, [], [4]⟩,
 ⟨some 35, .load false 1 (.tmp 34), none, [14], [34]⟩,
 ⟨some 36, .faddr 1 (.tmp 4), none, [], [4]⟩,
 ⟨some 37, .load false 1 (.tmp 36), none, [16], [36]⟩,
 ⟨some 38, .faddr 2 (.tmp 4), none, [], [4]⟩,
 ⟨some 39, .load true 2 (.tmp 38), none, [18], [38]⟩,
 ⟨some 40, .call true i_Xq47 [(.tmp 35), (.tmp 37), (.tmp 39)], none, [15, 17, 19, 13], [35, 37, 39]⟩,
 ⟨some 5, .alloc [.nils, (.int .i64 0)], none, [], []⟩,
 ⟨some 6, .alloc [.nils, (.int .i64 0)], none, [], []⟩,
 ⟨some 7, .alloc [.nils, (.int .i64 0)], none, [], []⟩,
 ⟨none, .store 2 (.tmp 5) (.tmp 26), none, [21, 6, 20, 0, 1, 2, 3, 4, 5, 6, 21, 22, 23], [5, 26]⟩,
 ⟨none, .store 2 (.tmp 6) (.tmp 33), none, [22, 13, 24, 0, 1, 2, 3, 4, 5, 6, 7, 8, 9, 10, 11, 12, 13, 21, 22, 23, 24], [6, 33]⟩,
 ⟨none, .store 2 (.tmp 7) (.tmp 40), none, [23, 20, 25, 0, 1, 2, 3, 4, 5, 6, 7, 8, 9, 10, 11, 12, 13, 14, 15, 16, 17, 18, 19, 20, 21, 22, 23, 24, 25], [7, 40]⟩])
 (.ghost (.kill [20, 21, 22, 23, 24, 25, 26, 27, 28, 29, 30, 31, 32, 33, 34, 35, 36, 37, 38, 39, 40])))
 (.seq (.seq (.seq (.region false [
 ⟨some 41, .faddr 1 (.tmp 5), none, [], []⟩,
 ⟨some 42, .load false 1 (.tmp 41), none, [], []⟩,
 ⟨some 43, .bin .neq (.tmp 42) (.cst (.int .i64 0)), none, [], []⟩,
 ⟨some 44, .mv (.tmp 43), none, [], []⟩,
 ⟨some 45, .faddr 1 (.tmp 6), (some ((some 44), false)), [], []⟩,
 ⟨some 46, .load false 1 (.tmp 45), (some ((some 44), false)), [], []⟩,
 ⟨some 47, .bin .neq (.tmp 46) (.cst (.int .i64 0)), (some ((some 44), false)), [], []⟩,
 ⟨some 48, .pick (.tmp 44) (.cst (.bool true)) (.tmp 47), none, [], []⟩,
 ⟨some 49, .mv (.tmp 48), none, [], []⟩,
 ⟨some 50, .faddr 1 (.tmp 7), (some ((some 49), false)), [], []⟩,
 ⟨some 51, .load false 1 (.tmp 50), (some ((some 49), false)), [], []⟩,
 ⟨some 52, .bin .neq (.tmp 51) (.cst (.int .i64 0)), (some ((some 49), false)), [], []⟩,
 ⟨some 53, .pick (.tmp 49) (.cst (.bool true)) (.tmp 52), none, [], []⟩])
 (.ghost (.kill [41, 42, 43, 44, 45, 46, 47, 48, 49, 50, 51, 52])))
 (.cond (.tmp 53) (.seq (.region false [
   ⟨some 2, .mv (.cst (.bool false)), none, [], []⟩])
  .ret)
 .skip))
 (.seq (.seq (.region false [
 ⟨some 8, .mv (.cst (.int .i64 0)), none, [], []⟩,
 ⟨some 9, .mv (.cst (.int .i64 0)), none, [], []⟩])
 (.ghost (.kill [53])))
 (.seq (.seq (.region false [
 ⟨some 10, .mv (.cst (.int .i64 0)), none, [], []⟩])
 (.seq (.block 0 (.loop Xq18.b0))
 (.ghost (.kill [10, 58]))))
 Xq18.c2))))))))
def Xq18.k1 : List Item := [.inBlock 2, .code Xq18.c1, .code Xq18.c0]
def Xq18.k0 : List Item := [.inBlock 0, .code (.ghost (.kill [10, 58])), .code Xq18.c2]
def Xq18 : AFunc := ⟨205, [.tmp 2], Xq18.main, false⟩
def Xq24.c0 : ACode := (.seq (.region false [
 ⟨some 115, .faddr 1 (.tmp 6), none, [], []⟩,
 ⟨some 116, .load false 1 (.tmp 115), none, [], []⟩,
 ⟨some 117, .bin .eql (.tmp 116) (.cst (.int .i64 0)), none, [], []⟩,
 ⟨some 118, .mv (.tmp 117), none, [], []⟩,
 ⟨some 119, .faddr 1 (.tmp 7), (some ((some 118), true)), [], []⟩,
 ⟨some 120, .load false 1 (.tmp 119), (some ((some 118), true)), [], []⟩,
 ⟨some 121, .bin .eql (.tmp 120) (.cst (.int .i64 0)), (some ((some 118), true)), [], []⟩,
 ⟨some 122, .pick (.tmp 118) (.tmp 121) (.cst (.bool false)), none, [], []⟩,
 ⟨some 123, .mv (.tmp 122), none, [], []⟩,
 ⟨some 124, .mv (.tmp 8), (some ((some 123), true)), [], []⟩,
 ⟨some 125, .faddr 0 (.tmp 6), (some ((some 123), true)), [], []⟩,
 ⟨some 126, .load false 1 (.tmp 125), (some ((some 123), true)), [], []⟩,
 ⟨some 127, .len .sl (.tmp 126), (some ((some 123), true)), [], []⟩,
 ⟨some 128, .bin .eql (.tmp 124) (.tmp 127), (some ((some 123), true)), [], []⟩,
 ⟨some 129, .pick (.tmp 123) (.tmp 128) (.cst (.bool false)), none, [], []⟩,
 ⟨some 130, .mv (.tmp 129), none, [], []⟩,
 ⟨some 131, .mv (.tmp 9), (some ((some 130), true)), [], []⟩,
 ⟨some 132, .faddr 0 (.tmp 7), (some ((some 130), true)), [], []⟩,
 ⟨some 133, .load false 1 (.tmp 132), (some ((some 130), true)), [], []⟩,
 ⟨some 134, .call true i_Xq32 [(.tmp 131), (.tmp 133)], (some ((some 130), true)), [], []⟩,
 ⟨some 135, .pick (.tmp 130) (.tmp 134) (.cst (.bool false)), none, [], []⟩,
 ⟨some 136, .mv (.tmp 135), none, [], []⟩,
 ⟨some 137, .mv (.tmp 3), (some ((some 136), true)), [], []⟩,
 ⟨some 138, .pick (.tmp 136) (.tmp 137) (.cst (.bool false)), none, [], []⟩,
 ⟨some 2, .mv (.tmp 138), none, [], []⟩])
 .ret)
def Xq24.c1 : ACode := (.ghost (.kill [4, 5, 10, 38]))
def Xq24.c2 : ACode := (.seq (.region false [
 ⟨some 39, .mv (.tmp 10), none, [], []⟩,
 ⟨some 40, .bin .add (.tmp 39) (.cst (.int .i64 1)), none, [], []⟩,
 ⟨some 10, .mv (.tmp 40), none, [], []⟩])
 (.ghost (.kill [39, 40])))
def Xq24.b1 : ACode := (.seq (.seq (.seq (.region false [
 ⟨some 81, .mv (.tmp 12), none, [], []⟩,
 ⟨some 82, .mv (.tmp 11), none, [], []⟩,
 ⟨some 83, .len .sl (.tmp 82), none, [], []⟩,
 ⟨some 84, .bin .lss (.tmp 81) (.tmp 83), none, [], []⟩])
 (.ghost (.kill [81, 82, 83])))
 (.cond (.tmp 84) .skip
 (.exit 2)))
 (.seq (.trunc (.block 3 (.seq (.seq (.seq (.region true [
 ⟨some 87, .mv (.tmp 8), none, [], [8]⟩,
 ⟨some 88, .faddr 0 (.tmp 6), none, [], [6]⟩,
 ⟨some 89, .load false 1 (.tmp 88), none, [1], [88]⟩,
 ⟨some 90, .len .sl (.tmp 89), none, [2], [89]⟩,
 ⟨some 91, .bin .geq (.tmp 87) (.tmp 90), none, [0, 3], [87, 90]⟩,
 ⟨some 92, .mv (.tmp 91), none, [4], [91]⟩,
 ⟨some 93, .faddr 0 (.tmp 6), (some ((some 92), false)), [5], [6]⟩,
 ⟨some 94, .load false 1 (.tmp 93), (some ((some 92), false)), [6, 5], [93]⟩,
 ⟨some 95, .mv (.tmp 8), (some ((some 92), false)), [5], [8]⟩,
 ⟨some 96, .iaddr 1 (.tmp 94) (.tmp 95), (some ((some 92), false)), [7, 8, 5], [94, 95]⟩,
 ⟨some 97, .load false 1 (.tmp 96), (some ((some 92), false)), [9, 5], [96]⟩,
 ⟨some 98, .mv (.tmp 11), (some ((some 92), false)), [5], [11]⟩,
 ⟨some 99, .mv (.tmp 12), (some ((some 92), false)), [5], [12]⟩,
 ⟨some 100, .iaddr 1 (.tmp 98) (.tmp 99), (some ((some 92), false)), [11, 12, 5], [98, 99]⟩,
 ⟨some 101, .load false 1 (.tmp 100), (some ((some 92), false)), [13, 5], [100]⟩,
 ⟨some 102, .call true i_Xq63 [(.tmp 97), (.tmp 101)], (some ((some 92), false)), [10, 14, 5, 5], [97, 101]⟩,
 ⟨some 103, .un .not (.tmp 102), (some ((some 92), false)), [15, 5], [102]⟩,
 ⟨some 104, .pick (.tmp 92) (.cst (.bool true)) (.tmp 103), none, [5, 16], [92, 103]⟩])
 (.ghost (.kill [84, 87, 88, 89, 90, 91, 92, 93, 94, 95, 96, 97, 98, 99, 100, 101, 102, 103])))
 (.cond (.tmp 104) (.seq (.region false [
   ⟨some 2, .mv (.cst (.bool false)), none, [], []⟩])
  .ret)
 .skip))
 (.seq (.seq (.region false [
 ⟨some 105, .mv (.tmp 9), none, [], []⟩,
 ⟨some 106, .faddr 0 (.tmp 6), none, [], []⟩,
 ⟨some 107, .load false 1 (.tmp 106), none, [], []⟩,
 ⟨some 108, .mv (.tmp 8), none, [], []⟩,
 ⟨some 109, .iaddr 1 (.tmp 107) (.tmp 108), none, [], []⟩,
 ⟨some 110, .load false 1 (.tmp 109), none, [], []⟩,
 ⟨some 111, .bslice 1 1 [.nils] [(0, (.tmp 110))], none, [], []⟩,
 ⟨some 112, .append 1 24 (.tmp 105) (.tmp 111), none, [], []⟩,
 ⟨some 9, .mv (.tmp 112), none, [], []⟩])
 (.ghost (.kill [104, 105, 106, 107, 108, 109, 110, 111, 112])))
 (.seq (.region false [
 ⟨some 113, .mv (.tmp 8), none, [], []⟩,
 ⟨some 114, .bin .add (.tmp 113) (.cst (.int .i64 1)), none, [], []⟩,
 ⟨some 8, .mv (.tmp 114), none, [], []⟩])
 (.ghost (.kill [113, 114])))))))
 (.seq (.region false [
 ⟨some 85, .mv (.tmp 12), none, [], []⟩,
 ⟨some 86, .bin .add (.tmp 85) (.cst (.int .i64 1)), none, [], []⟩,
 ⟨some 12, .mv (.tmp 86), none, [], []⟩])
 (.ghost (.kill [85, 86])))))
def Xq24.c3 : ACode := (.seq (.region false [
 ⟨some 12, .mv (.cst (.int .i64 0)), none, [], []⟩])
 (.seq (.block 2 (.loop Xq24.b1))
 (.ghost (.kill [11, 12, 84]))))
def Xq24.b0 : ACode := (.seq (.seq (.seq (.region false [
 ⟨some 34, .mv (.tmp 10), none, [], []⟩,
 ⟨some 35, .faddr 0 (.tmp 4), none, [], []⟩,
 ⟨some 36, .load false 1 (.tmp 35), none, [], []⟩,
 ⟨some 37, .len .sl (.tmp 36), none, [], []⟩,
 ⟨some 38, .bin .lss (.tmp 34) (.tmp 37), none, [], []⟩])
 (.ghost (.kill [34, 35, 36, 37])))
 (.cond (.tmp 38) .skip
 (.exit 0)))
 (.seq (.trunc (.block 1 (.seq (.seq (.region true [
 ⟨some 41, .faddr 0 (.tmp 4), none, [], [4]⟩,
 ⟨some 42, .load false 1 (.tmp 41), none, [0], [41]⟩,
 ⟨some 43, .mv (.tmp 10), none, [], [10]⟩,
 ⟨some 44, .mv (.tmp 10), none, [], [10]⟩,
 ⟨some 45, .bin .add (.tmp 44) (.cst (.int .i64 1)), none, [3], [44]⟩,
 ⟨some 46, .slice 1 (.tmp 42) (some (.tmp 43)) (some (.tmp 45)) none, none, [1, 2, 4], [42, 43, 45]⟩,
 ⟨some 47, .faddr 1 (.tmp 4), none, [], [4]⟩,
 ⟨some 48, .load false 1 (.tmp 47), none, [6], [47]⟩,
 ⟨some 49, .faddr 2 (.tmp 4), none, [], [4]⟩,
 ⟨some 50, .load true 2 (.tmp 49), none, [8], [49]⟩,
 ⟨some 51, .call true i_Xq47 [(.tmp 46), (.tmp 48), (.tmp 50)], none, [5, 7, 9], [46, 48, 50]⟩,
 ⟨some 52, .field 0 1 false (.tmp 51), none, [10], [51]⟩,
 ⟨some 11, .mv (.tmp 52), none, [11, 10, 0, 1, 2, 3, 4, 5, 6, 7, 8, 9, 10, 11], [52]⟩])
 (.ghost (.kill [38, 41, 42, 43, 44, 45, 46, 47, 48, 49, 50, 51, 52])))
 (.seq (.seq (.seq (.region false [
 ⟨some 53, .mv (.tmp 11), none, [], []⟩,
 ⟨some 54, .len .sl (.tmp 53), none, [], []⟩,
 ⟨some 55, .bin .eql (.tmp 54) (.cst (.int .i64 0)), none, [], []⟩])
 (.ghost (.kill [53, 54])))
 (.seq (.cond (.tmp 55) (.seq (.seq (.seq (.regionD ⟨[67, 73], [], [([67], [62, 63, 64, 65]), ([73], [62, 63, 64, 65])]⟩ [
   ⟨some 56, .mv (.tmp 8), none, [], [8]⟩,
   ⟨some 57, .faddr 0 (.tmp 6), none, [], [6]⟩,
   ⟨some 58, .load false 1 (.tmp 57), none, [1], [57]⟩,
   ⟨some 59, .len .sl (.tmp 58), none, [2], [58]⟩,
   ⟨some 60, .bin .geq (.tmp 56) (.tmp 59), none, [0, 3], [56, 59]⟩,
   ⟨some 61, .mv (.tmp 60), none, [4], [60]⟩,
   ⟨some 62, .faddr 0 (.tmp 6), (some ((some 61), false)), [5], [6]⟩,
   ⟨some 63, .load false 1 (.tmp 62), (some ((some 61), false)), [6, 5], [62]⟩,
   ⟨some 64, .mv (.tmp 8), (some ((some 61), false)), [5], [8]⟩,
   ⟨some 65, .iaddr 1 (.tmp 63) (.tmp 64), (some ((some 61), false)), [7, 8, 5], [63, 64]⟩,
   ⟨some 66, .load false 1 (.tmp 65), (some ((some 61), false)), [9, 5], [65]⟩,
   ⟨some 67, .bslice 3 0 [(.int .i64 0), (.int .i64 0), (.str ⟨#[]⟩)] [], (some ((some 61), false)), [5], []⟩,
   ⟨some 68, .faddr 0 (.tmp 4), (some ((some 61), false)), [5], [4]⟩,
   ⟨some 69, .load false 1 (.tmp 68), (some ((some 61), false)), [12, 5], [68]⟩,
   ⟨some 70, .mv (.tmp 10), (some ((some 61), false)), [5], [10]⟩,
   ⟨some 71, .iaddr 1 (.tmp 69) (.tmp 70), (some ((some 61), false)), [13, 14, 5], [69, 70]⟩,
   ⟨some 72, .load false 1 (.tmp 71), (some ((some 61), false)), [15, 5], [71]⟩,
   ⟨some 73, .append 3 32 (.tmp 67) (.tmp 72), (some ((some 61), false)), [11, 16, 5, 5], [67, 72]⟩,
   ⟨some 74, .mv (.tmp 5), (some ((some 61), false)), [5], [5]⟩,
   ⟨some 75, .appendz 3 32 [(.int .i64 0), (.int .i64 0), (.str ⟨#[]⟩)] (.tmp 73) (.tmp 74), (some ((some 61), false)), [17, 18, 17, 5], [73, 74]⟩,
   ⟨some 76, .call true i_Xq63 [(.tmp 66), (.tmp 75)], (some ((some 61), false)), [10, 19, 19, 5], [66, 75]⟩,
   ⟨some 77, .un .not (.tmp 76), (some ((some 61), false)), [20, 5], [76]⟩,
   ⟨some 78, .pick (.tmp 61) (.cst (.bool true)) (.tmp 77), none, [5, 21], [61, 77]⟩])
  (.ghost (.kill [55, 56, 57, 58, 59, 60, 61, 62, 63, 64, 65, 66, 67, 68, 69, 70, 71, 72, 73, 74, 75, 76, 77])))
  (.cond (.tmp 78) (.seq (.region false [
    ⟨some 2, .mv (.cst (.bool false)), none, [], []⟩])
   .ret)
  .skip))
  (.seq (.region false [
   ⟨some 79, .mv (.tmp 8), none, [], []⟩,
   ⟨some 80, .bin .add (.tmp 79) (.cst (.int .i64 1)), none, [], []⟩,
   ⟨some 8, .mv (.tmp 80), none, [], []⟩])
  (.ghost (.kill [78, 79, 80]))))
 .skip)
 (.ghost (.kill [55]))))
 Xq24.c3))))
 Xq24.c2))
def Xq24.main : ACode := (.seq (.seq (.region false [
 ⟨some 1, .box 6 (.tmp 0), none, [], []⟩,
 ⟨some 2, .mv (.cst (.bool false)), none, [], []⟩])
 (.ghost (.kill [0, 2])))
 (.seq (.seq (.region false [
 ⟨some 13, .call true i_Xq29 [], none, [], []⟩,
 ⟨some 3, .mv (.tmp 13), none, [], []⟩])
 (.ghost (.kill [13])))
 (.seq (.seq (.seq (.region false [
 ⟨some 14, .mv (.tmp 3), none, [], []⟩,
 ⟨some 15, .un .not (.tmp 14), none, [], []⟩])
 (.ghost (.kill [14])))
 (.cond (.tmp 15) (.seq (.region false [
   ⟨some 2, .mv (.cst (.bool false)), none, [], []⟩])
  .ret)
 .skip))
 (.seq (.seq (.region false [
 ⟨some 16, .load true 6 (.tmp 1), none, [], []⟩,
 ⟨some 17, .call true i_Xq61 [(.tmp 16)], none, [], []⟩,
 ⟨some 4, .alloc [.nils, .nils, (.int .i64 0), (.int .i64 0)], none, [], []⟩,
 ⟨none, .store 4 (.tmp 4) (.tmp 17), none, [], []⟩])
 (.ghost (.kill [15, 16, 17])))
 (.seq (.seq (.region false [
 ⟨some 18, .faddr 3 (.tmp 1), none, [], []⟩,
 ⟨some 19, .load false 1 (.tmp 18), none, [], []⟩,
 ⟨some 20, .bin .rem (.tmp 19) (.cst (.int .u8 3)), none, [], []⟩,
 ⟨some 21, .conv .i64 (.tmp 20), none, [], []⟩,
 ⟨some 22, .bin .add (.cst (.int .i64 1)) (.tmp 21), none, [], []⟩,
 ⟨some 5, .mv (.tmp 22), none, [], []⟩])
 (.ghost (.kill [1, 18, 19, 20, 21, 22])))
 (.seq (.seq (.region true [
 ⟨some 23, .load true 4 (.tmp 4), none, [], [4]⟩,
 ⟨some 24, .mv (.tmp 5), none, [], [5]⟩,
 ⟨some 25, .call true i_Xq49 [(.tmp 23), (.tmp 24)], none, [0, 1], [23, 24]⟩,
 ⟨some 26, .faddr 0 (.tmp 4), none, [], [4]⟩,
 ⟨some 27, .load false 1 (.tmp 26), none, [3], [26]⟩,
 ⟨some 28, .faddr 1 (.tmp 4), none, [], [4]⟩,
 ⟨some 29, .load false 1 (.tmp 28), none, [5], [28]⟩,
 ⟨some 30, .faddr 2 (.tmp 4), none, [], [4]⟩,
 ⟨some 31, .load true 2 (.tmp 30), none, [7], [30]⟩,
 ⟨some 32, .call true i_Xq47 [(.tmp 27), (.tmp 29), (.tmp 31)], none, [4, 6, 8, 2], [27, 29, 31]⟩,
 ⟨some 6, .alloc [.nils, (.int .i64 0)], none, [], []⟩,
 ⟨some 7, .alloc [.nils, (.int .i64 0)], none, [], []⟩,
 ⟨none, .store 2 (.tmp 6) (.tmp 25), none, [10, 2, 9, 0, 1, 2, 10, 11], [6, 25]⟩,
 ⟨none, .store 2 (.tmp 7) (.tmp 32), none, [11, 9, 12, 0, 1, 2, 3, 4, 5, 6, 7, 8, 9, 10, 11, 12], [7, 32]⟩])
 (.ghost (.kill [23, 24, 25, 26, 27, 28, 29, 30, 31, 32])))
 (.seq (.seq (.region false [
 ⟨some 33, .bslice 1 0 [.nils] [], none, [], []⟩,
 ⟨some 8, .mv (.cst (.int .i64 0)), none, [], []⟩,
 ⟨some 9, .mv (.tmp 33), none, [], []⟩])
 (.ghost (.kill [33])))
 (.seq (.seq (.region false [
 ⟨some 10, .mv (.cst (.int .i64 0)), none, [], []⟩])
 (.seq (.block 0 (.loop Xq24.b0))
 Xq24.c1))
 Xq24.c0))))))))
def Xq24.k1 (m0 : Nat) : List Item := [.inBlock 2, .code (.ghost (.kill [11, 12, 84])), .inBlock 1, .inTrunc m0, .code Xq24.c2, .inLoop Xq24.b0, .inBlock 0, .code Xq24.c1, .code Xq24.c0]
def Xq24.k0 : List Item := [.inBlock 0, .code Xq24.c1, .code Xq24.c0]
def Xq24 : AFunc := ⟨139, [.tmp 2], Xq24.main, false⟩
def Xq15.c0 : ACode := (.seq (.seq (.ghost (.freeze 11))
 (.region false [
 ⟨some 129, .faddr 1 (.tmp 5), none, [], []⟩,
 ⟨some 130, .load false 1 (.tmp 129), none, [], []⟩,
 ⟨some 131, .bin .eql (.tmp 130) (.cst (.int .i64 0)), none, [], []⟩,
 ⟨some 132, .mv (.tmp 131), none, [], []⟩,
 ⟨some 133, .faddr 1 (.tmp 6), (some ((some 132), true)), [], []⟩,
 ⟨some 134, .load false 1 (.tmp 133), (some ((some 132), true)), [], []⟩,
 ⟨some 135, .bin .eql (.tmp 134) (.cst (.int .i64 0)), (some ((some 132), true)), [], []⟩,
 ⟨some 136, .pick (.tmp 132) (.tmp 135) (.cst (.bool false)), none, [], []⟩,
 ⟨some 137, .mv (.tmp 136), none, [], []⟩,
 ⟨some 138, .faddr 0 (.tmp 5), (some ((some 137), true)), [], []⟩,
 ⟨some 139, .load false 1 (.tmp 138), (some ((some 137), true)), [], []⟩,
 ⟨some 140, .len .sl (.tmp 139), (some ((some 137), true)), [], []⟩,
 ⟨some 141, .mv (.tmp 7), (some ((some 137), true)), [], []⟩,
 ⟨some 142, .bin .eql (.tmp 140) (.tmp 141), (some ((some 137), true)), [], []⟩,
 ⟨some 143, .pick (.tmp 137) (.tmp 142) (.cst (.bool false)), none, [], []⟩,
 ⟨some 144, .mv (.tmp 143), none, [], []⟩,
 ⟨some 145, .faddr 0 (.tmp 5), (some ((some 144), true)), [], []⟩,
 ⟨some 146, .load false 1 (.tmp 145), (some ((some 144), true)), [], []⟩,
 ⟨some 147, .call true i_Xq43 [(.tmp 146), (.cst .nils)], (some ((some 144), true)), [], []⟩,
 ⟨some 148, .mv (.tmp 11), (some ((some 144), true)), [], []⟩,
 ⟨some 149, .call true i_Xq43 [(.tmp 148), (.cst .nils)], (some ((some 144), true)), [], []⟩,
 ⟨some 150, .call true i_Xq32 [(.tmp 147), (.tmp 149)], (some ((some 144), true)), [], []⟩,
 ⟨some 151, .pick (.tmp 144) (.tmp 150) (.cst (.bool false)), none, [], []⟩,
 ⟨some 152, .mv (.tmp 151), none, [], []⟩,
 ⟨some 153, .mv (.tmp 3), (some ((some 152), true)), [], []⟩,
 ⟨some 154, .pick (.tmp 152) (.tmp 153) (.cst (.bool false)), none, [], []⟩,
 ⟨some 2, .mv (.tmp 154), none, [], []⟩]))
 .ret)
def Xq15.b2 : ACode := (.seq (.seq (.seq (.region false [
 ⟨some 94, .mv (.tmp 12), none, [], []⟩,
 ⟨some 95, .faddr 0 (.tmp 6), none, [], []⟩,
 ⟨some 96, .load false 1 (.tmp 95), none, [], []⟩,
 ⟨some 97, .len .sl (.tmp 96), none, [], []⟩,
 ⟨some 98, .bin .lss (.tmp 94) (.tmp 97), none, [], []⟩])
 (.ghost (.kill [94, 95, 96, 97])))
 (.cond (.tmp 98) .skip
 (.exit 4)))
 (.seq (.trunc (.block 5 (.seq (.seq (.seq (.region false [
 ⟨some 101, .faddr 0 (.tmp 6), none, [], []⟩,
 ⟨some 102, .load false 1 (.tmp 101), none, [], []⟩,
 ⟨some 103, .mv (.tmp 12), none, [], []⟩,
 ⟨some 104, .iaddr 1 (.tmp 102) (.tmp 103), none, [], []⟩,
 ⟨some 105, .load false 1 (.tmp 104), none, [], []⟩,
 ⟨some 106, .len .sl (.tmp 105), none, [], []⟩,
 ⟨some 107, .mv (.tmp 8), none, [], []⟩,
 ⟨some 108, .bin .lss (.tmp 106) (.tmp 107), none, [], []⟩])
 (.ghost (.kill [98, 101, 102, 103, 104, 105, 106, 107])))
 (.cond (.tmp 108) (.seq (.region false [
   ⟨some 2, .mv (.cst (.bool false)), none, [], []⟩])
  .ret)
 .skip))
 (.seq (.regionD ⟨[109, 110, 118], [], [([110], [119, 120, 121, 122, 123, 124])]⟩ [
 ⟨some 109, .mv (.tmp 11), none, [], [11]⟩,
 ⟨some 110, .bslice 3 0 [(.int .i64 0), (.int .i64 0), (.str ⟨#[]⟩)] [], none, [], []⟩,
 ⟨some 111, .faddr 0 (.tmp 6), none, [], [6]⟩,
 ⟨some 112, .load false 1 (.tmp 111), none, [2], [111]⟩,
 ⟨some 113, .mv (.tmp 12), none, [], [12]⟩,
 ⟨some 114, .iaddr 1 (.tmp 112) (.tmp 113), none, [3, 4], [112, 113]⟩,
 ⟨some 115, .load false 1 (.tmp 114), none, [5], [114]⟩,
 ⟨some 116, .mv (.tmp 8), none, [], [8]⟩,
 ⟨some 117, .slice 3 (.tmp 115) (some (.tmp 116)) none none, none, [6, 7], [115, 116]⟩,
 ⟨some 118, .append 3 32 (.tmp 110) (.tmp 117), none, [1, 8], [110, 117]⟩,
 ⟨some 119, .faddr 0 (.tmp 6), none, [], [6]⟩,
 ⟨some 120, .load false 1 (.tmp 119), none, [10], [119]⟩,
 ⟨some 121, .mv (.tmp 12), none, [], [12]⟩,
 ⟨some 122, .iaddr 1 (.tmp 120) (.tmp 121), none, [11, 12], [120, 121]⟩,
 ⟨some 123, .load false 1 (.tmp 122), none, [13], [122]⟩,
 ⟨some 124, .mv (.tmp 8), none, [], [8]⟩,
 ⟨some 125, .slice 3 (.tmp 123) none (some (.tmp 124)) none, none, [14, 15], [123, 124]⟩,
 ⟨some 126, .appendF 3 32 (.tmp 118) (.tmp 125), none, [9, 16, 9], [118, 125]⟩,
 ⟨some 127, .bslice 1 1 [.nils] [(0, (.tmp 126))], none, [17], [126]⟩,
 ⟨some 128, .append 1 24 (.tmp 109) (.tmp 127), none, [0, 18, 17], [109, 127]⟩,
 ⟨some 11, .mv (.tmp 128), none, [19, 19, 0, 1, 2, 3, 4, 5, 6, 7, 8, 9, 10, 11, 12, 13, 14, 15, 16, 17, 18, 19], [128]⟩])
 (.ghost (.kill [108, 109, 110, 111, 112, 113, 114, 115, 116, 117, 118, 119, 120, 121, 122, 123, 124, 125, 126, 127, 128]))))))
 (.seq (.region false [
 ⟨some 99, .mv (.tmp 12), none, [], []⟩,
 ⟨some 100, .bin .add (.tmp 99) (.cst (.int .i64 1)), none, [], []⟩,
 ⟨some 12, .mv (.tmp 100), none, [], []⟩])
 (.ghost (.kill [99, 100])))))
def Xq15.c1 : ACode := (.seq (.seq (.region false [
 ⟨some 93, .bslice 1 0 [.nils] [], none, [], []⟩,
 ⟨some 11, .mv (.tmp 93), none, [], []⟩])
 (.ghost (.kill [93])))
 (.seq (.seq (.region false [
 ⟨some 12, .mv (.cst (.int .i64 0)), none, [], []⟩])
 (.seq (.block 4 (.loop Xq15.b2))
 (.ghost (.kill [8, 12, 98]))))
 Xq15.c0))
def Xq15.c2 : ACode := (.seq (.region false [
 ⟨some 47, .mv (.tmp 9), none, [], []⟩,
 ⟨some 48, .bin .add (.tmp 47) (.cst (.int .i64 1)), none, [], []⟩,
 ⟨some 9, .mv (.tmp 48), none, [], []⟩])
 (.ghost (.kill [47, 48])))
def Xq15.c3 : ACode := (.seq (.region false [
 ⟨some 54, .mv (.tmp 10), none, [], []⟩,
 ⟨some 55, .bin .add (.tmp 54) (.cst (.int .i64 1)), none, [], []⟩,
 ⟨some 10, .mv (.tmp 55), none, [], []⟩])
 (.ghost (.kill [54, 55])))
def Xq15.b1 : ACode := (.seq (.seq (.seq (.region false [
 ⟨some 49, .mv (.tmp 10), none, [], []⟩,
 ⟨some 50, .faddr 1 (.tmp 4), none, [], []⟩,
 ⟨some 51, .load false 1 (.tmp 50), none, [], []⟩,
 ⟨some 52, .len .sl (.tmp 51), none, [], []⟩,
 ⟨some 53, .bin .lss (.tmp 49) (.tmp 52), none, [], []⟩])
 (.ghost (.kill [49, 50, 51, 52])))
 (.cond (.tmp 53) .skip
 (.exit 2)))
 (.seq (.block 3 (.seq (.seq (.region true [
 ⟨some 56, .faddr 0 (.tmp 4), none, [], [4]⟩,
 ⟨some 57, .load false 1 (.tmp 56), none, [0], [56]⟩,
 ⟨some 58, .mv (.tmp 9), none, [], [9]⟩,
 ⟨some 59, .iaddr 1 (.tmp 57) (.tmp 58), none, [1, 2], [57, 58]⟩,
 ⟨some 60, .load false 1 (.tmp 59), none, [3], [59]⟩,
 ⟨some 61, .faddr 2 (.tmp 4), none, [], [4]⟩,
 ⟨some 62, .iaddrA 2 1 (.tmp 61) (.cst (.int .i64 0)), none, [5], [61]⟩,
 ⟨some 63, .load false 1 (.tmp 62), none, [6], [62]⟩,
 ⟨some 64, .iaddr 3 (.tmp 60) (.tmp 63), none, [4, 7], [60, 63]⟩,
 ⟨some 65, .faddr 0 (.tmp 64), none, [8], [64]⟩,
 ⟨some 66, .load false 1 (.tmp 65), none, [9], [65]⟩,
 ⟨some 67, .bin .neq (.tmp 66) (.cst (.int .i64 0)), none, [10], [66]⟩,
 ⟨some 68, .mv (.tmp 67), none, [11], [67]⟩,
 ⟨some 69, .faddr 0 (.tmp 4), (some ((some 68), true)), [12], [4]⟩,
 ⟨some 70, .load false 1 (.tmp 69), (some ((some 68), true)), [13, 12], [69]⟩,
 ⟨some 71, .mv (.tmp 9), (some ((some 68), true)), [12], [9]⟩,
 ⟨some 72, .iaddr 1 (.tmp 70) (.tmp 71), (some ((some 68), true)), [14, 15, 12], [70, 71]⟩,
 ⟨some 73, .load false 1 (.tmp 72), (some ((some 68), true)), [16, 12], [72]⟩,
 ⟨some 74, .faddr 2 (.tmp 4), (some ((some 68), true)), [12], [4]⟩,
 ⟨some 75, .iaddrA 2 1 (.tmp 74) (.cst (.int .i64 0)), (some ((some 68), true)), [18, 12], [74]⟩,
 ⟨some 76, .load false 1 (.tmp 75), (some ((some 68), true)), [19, 12], [75]⟩,
 ⟨some 77, .iaddr 3 (.tmp 73) (.tmp 76), (some ((some 68), true)), [17, 20, 12], [73, 76]⟩,
 ⟨some 78, .load true 3 (.tmp 77), (some ((some 68), true)), [21, 12], [77]⟩,
 ⟨some 79, .faddr 1 (.tmp 4), (some ((some 68), true)), [12], [4]⟩,
 ⟨some 80, .load false 1 (.tmp 79), (some ((some 68), true)), [23, 12], [79]⟩,
 ⟨some 81, .mv (.tmp 10), (some ((some 68), true)), [12], [10]⟩,
 ⟨some 82, .iaddr 1 (.tmp 80) (.tmp 81), (some ((some 68), true)), [24, 25, 12], [80, 81]⟩,
 ⟨some 83, .load false 1 (.tmp 82), (some ((some 68), true)), [26, 12], [82]⟩,
 ⟨some 84, .faddr 2 (.tmp 4), (some ((some 68), true)), [12], [4]⟩,
 ⟨some 85, .iaddrA 2 1 (.tmp 84) (.cst (.int .i64 1)), (some ((some 68), true)), [28, 12], [84]⟩,
 ⟨some 86, .load false 1 (.tmp 85), (some ((some 68), true)), [29, 12], [85]⟩,
 ⟨some 87, .iaddr 3 (.tmp 83) (.tmp 86), (some ((some 68), true)), [27, 30, 12], [83, 86]⟩,
 ⟨some 88, .load true 3 (.tmp 87), (some ((some 68), true)), [31, 12], [87]⟩,
 ⟨some 89, .eqs false (.row [(0, 1, false, (.int .i64)), (1, 1, false, (.int .i64)), (2, 1, false, .str)]) (.tmp 78) (.tmp 88), (some ((some 68), true)), [22, 32, 12], [78, 88]⟩,
 ⟨some 90, .pick (.tmp 68) (.tmp 89) (.cst (.bool false)), none, [12, 33], [68, 89]⟩])
 (.ghost (.kill [53, 56, 57, 58, 59, 60, 61, 62, 63, 64, 65, 66, 67, 68, 69, 70, 71, 72, 73, 74, 75, 76, 77, 78, 79, 80, 81, 82, 83, 84, 85, 86, 87, 88, 89])))
 (.seq (.cond (.tmp 90) (.seq (.region false [
   ⟨some 91, .mv (.tmp 7), none, [], []⟩,
   ⟨some 92, .bin .add (.tmp 91) (.cst (.int .i64 1)), none, [], []⟩,
   ⟨some 7, .mv (.tmp 92), none, [], []⟩])
  (.ghost (.kill [90, 91, 92])))
 .skip)
 (.ghost (.kill [90])))))
 Xq15.c3))
def Xq15.b0 : ACode := (.seq (.seq (.seq (.region false [
 ⟨some 42, .mv (.tmp 9), none, [], []⟩,
 ⟨some 43, .faddr 0 (.tmp 4), none, [], []⟩,
 ⟨some 44, .load false 1 (.tmp 43), none, [], []⟩,
 ⟨some 45, .len .sl (.tmp 44), none, [], []⟩,
 ⟨some 46, .bin .lss (.tmp 42) (.tmp 45), none, [], []⟩])
 (.ghost (.kill [42, 43, 44, 45])))
 (.cond (.tmp 46) .skip
 (.exit 0)))
 (.seq (.block 1 (.seq (.seq (.region false [
 ⟨some 10, .mv (.cst (.int .i64 0)), none, [], []⟩])
 (.ghost (.kill [46])))
 (.seq (.block 2 (.loop Xq15.b1))
 (.ghost (.kill [10, 53])))))
 Xq15.c2))
def Xq15.main : ACode := (.seq (.seq (.region false [
 ⟨some 1, .box 6 (.tmp 0), none, [], []⟩,
 ⟨some 2, .mv (.cst (.bool false)), none, [], []⟩])
 (.ghost (.kill [0, 2])))
 (.seq (.seq (.region false [
 ⟨some 13, .call true i_Xq29 [], none, [], []⟩,
 ⟨some 3, .mv (.tmp 13), none, [], []⟩])
 (.ghost (.kill [13])))
 (.seq (.seq (.seq (.region false [
 ⟨some 14, .mv (.tmp 3), none, [], []⟩,
 ⟨some 15, .un .not (.tmp 14), none, [], []⟩])
 (.ghost (.kill [14])))
 (.cond (.tmp 15) (.seq (.region false [
   ⟨some 2, .mv (.cst (.bool false)), none, [], []⟩])
  .ret)
 .skip))
 (.seq (.seq (.region false [
 ⟨some 16, .load true 6 (.tmp 1), none, [], []⟩,
 ⟨some 17, .call true i_Xq61 [(.tmp 16)], none, [], []⟩,
 ⟨some 4, .alloc [.nils, .nils, (.int .i64 0), (.int .i64 0)], none, [], []⟩,
 ⟨none, .store 4 (.tmp 4) (.tmp 17), none, [], []⟩])
 (.ghost (.kill [15, 16, 17])))
 (.seq (.seq (.region true [
 ⟨some 18, .faddr 0 (.tmp 4), none, [], [4]⟩,
 ⟨some 19, .load false 1 (.tmp 18), none, [0], [18]⟩,
 ⟨some 20, .faddr 1 (.tmp 4), none, [], [4]⟩,
 ⟨some 21, .load false 1 (.tmp 20), none, [2], [20]⟩,
 ⟨some 22, .faddr 2 (.tmp 4), none, [], [4]⟩,
 ⟨some 23, .load true 2 (.tmp 22), none, [4], [22]⟩,
 ⟨some 24, .call true i_Xq47 [(.tmp 19), (.tmp 21), (.tmp 23)], none, [1, 3, 5], [19, 21, 23]⟩,
 ⟨some 25, .faddr 1 (.tmp 4), none, [], [4]⟩,
 ⟨some 26, .load false 1 (.tmp 25), none, [7], [25]⟩,
 ⟨some 27, .faddr 0 (.tmp 4), none, [], [4]⟩,
 ⟨some 28, .load false 1 (.tmp 27), none, [9], [27]⟩,
 ⟨some 29, .faddr 2 (.tmp 4), none, [], [4]⟩,
 ⟨some 30, .iaddrA 2 1 (.tmp 29) (.cst (.int .i64 1)), none, [11], [29]⟩,
 ⟨some 31, .load false 1 (.tmp 30), none, [12], [30]⟩,
 ⟨some 32, .faddr 2 (.tmp 4), none, [], [4]⟩,
 ⟨some 33, .iaddrA 2 1 (.tmp 32) (.cst (.int .i64 0)), none, [14], [32]⟩,
 ⟨some 34, .load false 1 (.tmp 33), none, [15], [33]⟩,
 ⟨some 35, .build [(.int .i64 0), (.int .i64 0)] [(0, 1, (.tmp 31)), (1, 1, (.tmp 34))], none, [13, 16], [31, 34]⟩,
 ⟨some 36, .call true i_Xq47 [(.tmp 26), (.tmp 28), (.tmp 35)], none, [8, 10, 17, 6], [26, 28, 35]⟩,
 ⟨some 5, .alloc [.nils, (.int .i64 0)], none, [], []⟩,
 ⟨some 6, .alloc [.nils, (.int .i64 0)], none, [], []⟩,
 ⟨none, .store 2 (.tmp 5) (.tmp 24), none, [19, 6, 18, 0, 1, 2, 3, 4, 5, 6, 19, 20], [5, 24]⟩,
 ⟨none, .store 2 (.tmp 6) (.tmp 36), none, [20, 18, 21, 0, 1, 2, 3, 4, 5, 6, 7, 8, 9, 10, 11, 12, 13, 14, 15, 16, 17, 18, 19, 20, 21], [6, 36]⟩])
 (.ghost (.kill [18, 19, 20, 21, 22, 23, 24, 25, 26, 27, 28, 29, 30, 31, 32, 33, 34, 35, 36])))
 (.seq (.seq (.region true [
 ⟨some 37, .faddr 3 (.tmp 1), none, [], [1]⟩,
 ⟨some 38, .load false 1 (.tmp 37), none, [0], [37]⟩,
 ⟨some 39, .bin .rem (.tmp 38) (.cst (.int .u8 3)), none, [1], [38]⟩,
 ⟨some 40, .conv .i64 (.tmp 39), none, [2], [39]⟩,
 ⟨some 41, .bin .add (.cst (.int .i64 1)) (.tmp 40), none, [3], [40]⟩,
 ⟨some 7, .mv (.cst (.int .i64 0)), none, [], []⟩,
 ⟨some 8, .mv (.tmp 41), none, [4, 5, 0, 1, 2, 3, 4, 5], [41]⟩])
 (.ghost (.kill [1, 37, 38, 39, 40, 41])))
 (.seq (.seq (.region false [
 ⟨some 9, .mv (.cst (.int .i64 0)), none, [], []⟩])
 (.seq (.block 0 (.loop Xq15.b0))
 (.ghost (.kill [4, 9, 46]))))
 Xq15.c1)))))))
def Xq15.k2 : List Item := [.inBlock 4, .code (.ghost (.kill [8, 12, 98])), .code Xq15.c0]
def Xq15.k1 : List Item := [.inBlock 2, .code (.ghost (.kill [10, 53])), .inBlock 1, .code Xq15.c2, .inLoop Xq15.b0, .inBlock 0, .code (.ghost (.kill [4, 9, 46])), .code Xq15.c1]
def Xq15.k0 : List Item := [.inBlock 0, .code (.ghost (.kill [4, 9, 46])), .code Xq15.c1]
def Xq15 : AFunc := ⟨155, [.tmp 2], Xq15.main, false⟩
def Xq29.main : ACode := (.seq (.seq (.region false [
 ⟨some 0, .mv (.cst (.bool false)), none, [], []⟩])
 (.ghost (.kill [0])))
 (.seq (.seq (.region false [
 ⟨some 8, .call true i_Xq56 [(.cst (.int .i64 1))], none, [], []⟩,
 ⟨some 9, .call true i_Xq56 [(.cst (.int .i64 2))], none, [], []⟩,
 ⟨some 1, .alloc [(.int .i64 0), (.int .i64 0), (.str ⟨#[]⟩)], none, [], []⟩,
 ⟨some 2, .alloc [(.int .i64 0), (.int .i64 0), (.str ⟨#[]⟩)], none, [], []⟩,
 ⟨none, .store 3 (.tmp 1) (.tmp 8), none, [], []⟩,
 ⟨none, .store 3 (.tmp 2) (.tmp 9), none, [], []⟩])
 (.ghost (.kill [8, 9])))
 (.seq (.seq (.region true [
 ⟨some 10, .load true 3 (.tmp 1), none, [], [1]⟩,
 ⟨some 11, .call true i_Xq68 [(.cst (.str ⟨#[97]⟩))], none, [], []⟩,
 ⟨some 12, .flist 3 2 [(.int .i64 0), (.int .i64 0), (.str ⟨#[]⟩)] [(0, (.tmp 10)), (1, (.tmp 11))], none, [0, 1], [10, 11]⟩,
 ⟨some 13, .load true 3 (.tmp 2), none, [], [2]⟩,
 ⟨some 14, .call true i_Xq68 [(.cst (.str ⟨#[98]⟩))], none, [1], []⟩,
 ⟨some 15, .flist 3 2 [(.int .i64 0), (.int .i64 0), (.str ⟨#[]⟩)] [(0, (.tmp 13)), (1, (.tmp 14))], none, [3, 4], [13, 14]⟩,
 ⟨some 16, .build [(.int .i64 0), (.int .i64 0), (.str ⟨#[]⟩)] [], none, [], []⟩,
 ⟨some 17, .call true i_Xq68 [(.cst (.str ⟨#[99]⟩))], none, [4], []⟩,
 ⟨some 18, .flist 3 2 [(.int .i64 0), (.int .i64 0), (.str ⟨#[]⟩)] [(0, (.tmp 16)), (1, (.tmp 17))], none, [6, 7], [16, 17]⟩,
 ⟨some 19, .flist 1 3 [.nils] [(0, (.tmp 12)), (1, (.tmp 15)), (2, (.tmp 18))], none, [2, 5, 8], [12, 15, 18]⟩,
 ⟨some 3, .mv (.tmp 19), none, [9, 7, 0, 1, 2, 3, 4, 5, 6, 7, 8, 9], [19]⟩])
 (.ghost (.kill [10, 11, 12, 13, 14, 15, 16, 17, 18, 19])))
 (.seq (.seq (.region true [
 ⟨some 20, .load true 3 (.tmp 2), none, [], [2]⟩,
 ⟨some 21, .call true i_Xq56 [(.cst (.int .i64 7))], none, [], []⟩,
 ⟨some 22, .flist 3 2 [(.int .i64 0), (.int .i64 0), (.str ⟨#[]⟩)] [(0, (.tmp 20)), (1, (.tmp 21))], none, [0, 1], [20, 21]⟩,
 ⟨some 23, .load true 3 (.tmp 2), none, [], [2]⟩,
 ⟨some 24, .call true i_Xq56 [(.cst (.int .i64 8))], none, [1], []⟩,
 ⟨some 25, .flist 3 2 [(.int .i64 0), (.int .i64 0), (.str ⟨#[]⟩)] [(0, (.tmp 23)), (1, (.tmp 24))], none, [3, 4], [23, 24]⟩,
 ⟨some 26, .build [(.int .i64 0), (.int .i64 0), (.str ⟨#[]⟩)] [], none, [], []⟩,
 ⟨some 27, .call true i_Xq56 [(.cst (.int .i64 9))], none, [4], []⟩,
 ⟨some 28, .flist 3 2 [(.int .i64 0), (.int .i64 0), (.str ⟨#[]⟩)] [(0, (.tmp 26)), (1, (.tmp 27))], none, [6, 7], [26, 27]⟩,
 ⟨some 29, .flist 1 3 [.nils] [(0, (.tmp 22)), (1, (.tmp 25)), (2, (.tmp 28))], none, [2, 5, 8], [22, 25, 28]⟩,
 ⟨some 4, .mv (.tmp 29), none, [9, 7, 0, 1, 2, 3, 4, 5, 6, 7, 8, 9], [29]⟩])
 (.ghost (.kill [20, 21, 22, 23, 24, 25, 26, 27, 28, 29])))
 (.seq (.seq (.region true [
 ⟨some 30, .load true 3 (.tmp 2), none, [], [2]⟩,
 ⟨some 31, .call true i_Xq68 [(.cst (.str ⟨#[98]⟩))], none, [], []⟩,
 ⟨some 32, .load true 3 (.tmp 2), none, [], [2]⟩,
 ⟨some 33, .call true i_Xq56 [(.cst (.int .i64 7))], none, [1], []⟩,
 ⟨some 34, .flist 3 4 [(.int .i64 0), (.int .i64 0), (.str ⟨#[]⟩)] [(0, (.tmp 30)), (1, (.tmp 31)), (2, (.tmp 32)), (3, (.tmp 33))], none, [0, 1, 2, 3], [30, 31, 32, 33]⟩,
 ⟨some 35, .load true 3 (.tmp 2), none, [], [2]⟩,
 ⟨some 36, .call true i_Xq68 [(.cst (.str ⟨#[98]⟩))], none, [3], []⟩,
 ⟨some 37, .load true 3 (.tmp 2), none, [], [2]⟩,
 ⟨some 38, .call true i_Xq56 [(.cst (.int .i64 8))], none, [6], []⟩,
 ⟨some 39, .flist 3 4 [(.int .i64 0), (.int .i64 0), (.str ⟨#[]⟩)] [(0, (.tmp 35)), (1, (.tmp 36)), (2, (.tmp 37)), (3, (.tmp 38))], none, [5, 6, 7, 8], [35, 36, 37, 38]⟩,
 ⟨some 40, .flist 1 2 [.nils] [(0, (.tmp 34)), (1, (.tmp 39))], none, [4, 9], [34, 39]⟩,
 ⟨some 41, .build [.nils, (.int .i64 0)] [(0, 1, (.tmp 40))], none, [10], [40]⟩,
 ⟨some 5, .alloc [.nils, (.int .i64 0)], none, [], []⟩,
 ⟨none, .store 2 (.tmp 5) (.tmp 41), none, [12, 11, 8, 0, 1, 2, 3, 4, 5, 6, 7, 8, 9, 10, 11, 12], [5, 41]⟩])
 (.ghost (.kill [2, 30, 31, 32, 33, 34, 35, 36, 37, 38, 39, 40, 41])))
 (.seq (.seq (.region false [
 ⟨some 42, .build [(.int .i64 0), (.int .i64 0)] [(0, 1, (.cst (.int .i64 0))), (1, 1, (.cst (.int .i64 0)))], none, [], []⟩,
 ⟨some 6, .alloc [(.int .i64 0), (.int .i64 0)], none, [], []⟩,
 ⟨none, .store 2 (.tmp 6) (.tmp 42), none, [], []⟩])
 (.ghost (.kill [42])))
 (.seq (.seq (.region false [
 ⟨some 43, .mv (.tmp 3), none, [], []⟩,
 ⟨some 44, .mv (.tmp 4), none, [], []⟩,
 ⟨some 45, .build [.nils, .nils, (.int .i64 0), (.int .i64 0)] [(0, 1, (.tmp 43)), (1, 1, (.tmp 44))], none, [], []⟩,
 ⟨some 46, .call true i_Xq49 [(.tmp 45), (.cst (.int .i64 2))], none, [], []⟩,
 ⟨some 7, .alloc [.nils, (.int .i64 0)], none, [], []⟩,
 ⟨none, .store 2 (.tmp 7) (.tmp 46), none, [], []⟩])
 (.ghost (.kill [43, 44, 45, 46])))
 (.seq (.region true [
 ⟨some 47, .mv (.tmp 3), none, [], [3]⟩,
 ⟨some 48, .mv (.tmp 4), none, [], [4]⟩,
 ⟨some 49, .load true 2 (.tmp 6), none, [], [6]⟩,
 ⟨some 50, .call true i_Xq47 [(.tmp 47), (.tmp 48), (.tmp 49)], none, [0, 1, 2], [47, 48, 49]⟩,
 ⟨some 51, .load true 2 (.tmp 5), none, [], [5]⟩,
 ⟨some 52, .call true i_Xq59 [(.tmp 50), (.tmp 51)], none, [3, 4, 3], [50, 51]⟩,
 ⟨some 53, .mv (.tmp 52), none, [5, 5], [52]⟩,
 ⟨some 54, .mv (.tmp 3), (some ((some 53), true)), [6], [3]⟩,
 ⟨some 55, .mv (.tmp 4), (some ((some 53), true)), [6], [4]⟩,
 ⟨some 56, .load true 2 (.tmp 6), (some ((some 53), true)), [6], [6]⟩,
 ⟨some 57, .call true i_Xq67 [(.tmp 54), (.tmp 55), (.tmp 56)], (some ((some 53), true)), [7, 8, 9, 6, 6], [54, 55, 56]⟩,
 ⟨some 58, .load true 2 (.tmp 5), (some ((some 53), true)), [6], [5]⟩,
 ⟨some 59, .call true i_Xq59 [(.tmp 57), (.tmp 58)], (some ((some 53), true)), [10, 11, 10, 6], [57, 58]⟩,
 ⟨some 60, .pick (.tmp 53) (.tmp 59) (.cst (.bool false)), none, [6, 12], [53, 59]⟩,
 ⟨some 61, .mv (.tmp 60), none, [13, 12], [60]⟩,
 ⟨some 62, .mv (.tmp 3), (some ((some 61), true)), [14], [3]⟩,
 ⟨some 63, .mv (.tmp 4), (some ((some 61), true)), [14], [4]⟩,
 ⟨some 64, .load true 2 (.tmp 6), (some ((some 61), true)), [14], [6]⟩,
 ⟨some 65, .call true i_Xq44 [(.tmp 62), (.tmp 63), (.tmp 64)], (some ((some 61), true)), [15, 16, 17, 14, 14], [62, 63, 64]⟩,
 ⟨some 66, .field 1 1 false (.tmp 65), (some ((some 61), true)), [18, 14], [65]⟩,
 ⟨some 67, .bin .eql (.tmp 66) (.cst (.int .i64 1)), (some ((some 61), true)), [19, 14], [66]⟩,
 ⟨some 68, .pick (.tmp 61) (.tmp 67) (.cst (.bool false)), none, [14, 20], [61, 67]⟩,
 ⟨some 69, .mv (.tmp 68), none, [21, 18], [68]⟩,
 ⟨some 70, .mv (.tmp 3), (some ((some 69), true)), [22], [3]⟩,
 ⟨some 71, .slice 1 (.tmp 70) none (some (.cst (.int .i64 2))) none, (some ((some 69), true)), [23, 22], [70]⟩,
 ⟨some 72, .mv (.tmp 4), (some ((some 69), true)), [22], [4]⟩,
 ⟨some 73, .slice 1 (.tmp 72) none (some (.cst (.int .i64 2))) none, (some ((some 69), true)), [25, 22], [72]⟩,
 ⟨some 74, .load true 2 (.tmp 6), (some ((some 69), true)), [22], [6]⟩,
 ⟨some 75, .call true i_Xq44 [(.tmp 71), (.tmp 73), (.tmp 74)], (some ((some 69), true)), [24, 26, 27, 22, 22], [71, 73, 74]⟩,
 ⟨some 76, .load true 2 (.tmp 5), (some ((some 69), true)), [22], [5]⟩,
 ⟨some 77, .call true i_Xq59 [(.tmp 75), (.tmp 76)], (some ((some 69), true)), [28, 29, 28, 22], [75, 76]⟩,
 ⟨some 78, .pick (.tmp 69) (.tmp 77) (.cst (.bool false)), none, [22, 30], [69, 77]⟩,
 ⟨some 79, .mv (.tmp 78), none, [31, 30], [78]⟩,
 ⟨some 80, .mv (.tmp 3), (some ((some 79), true)), [32], [3]⟩,
 ⟨some 81, .mv (.tmp 4), (some ((some 79), true)), [32], [4]⟩,
 ⟨some 82, .load true 2 (.tmp 6), (some ((some 79), true)), [32], [6]⟩,
 ⟨some 83, .call true i_Xq62 [(.tmp 80), (.tmp 81), (.tmp 82)], (some ((some 79), true)), [33, 34, 35, 32, 32], [80, 81, 82]⟩,
 ⟨some 84, .mv (.tmp 3), (some ((some 79), true)), [32], [3]⟩,
 ⟨some 85, .iaddr 1 (.tmp 84) (.cst (.int .i64 0)), (some ((some 79), true)), [37, 32], [84]⟩,
 ⟨some 86, .load false 1 (.tmp 85), (some ((some 79), true)), [38, 32], [85]⟩,
 ⟨some 87, .mv (.tmp 3), (some ((some 79), true)), [32], [3]⟩,
 ⟨some 88, .iaddr 1 (.tmp 87) (.cst (.int .i64 2)), (some ((some 79), true)), [40, 32], [87]⟩,
 ⟨some 89, .load false 1 (.tmp 88), (some ((some 79), true)), [41, 32], [88]⟩,
 ⟨some 90, .flist 1 2 [.nils] [(0, (.tmp 86)), (1, (.tmp 89))], (some ((some 79), true)), [39, 42, 32], [86, 89]⟩,
 ⟨some 91, .build [.nils, (.int .i64 0)] [(0, 1, (.tmp 90))], (some ((some 79), true)), [43, 32], [90]⟩,
 ⟨some 92, .call true i_Xq59 [(.tmp 83), (.tmp 91)], (some ((some 79), true)), [36, 44, 36, 32], [83, 91]⟩,
 ⟨some 93, .pick (.tmp 79) (.tmp 92) (.cst (.bool false)), none, [32, 45], [79, 92]⟩,
 ⟨some 94, .mv (.tmp 93), none, [46, 45], [93]⟩,
 ⟨some 95, .mv (.tmp 3), (some ((some 94), true)), [47], [3]⟩,
 ⟨some 96, .mv (.tmp 4), (some ((some 94), true)), [47], [4]⟩,
 ⟨some 97, .load true 2 (.tmp 6), (some ((some 94), true)), [47], [6]⟩,
 ⟨some 98, .call true i_Xq66 [(.tmp 95), (.tmp 96), (.tmp 97)], (some ((some 94), true)), [48, 49, 50, 47, 47], [95, 96, 97]⟩,
 ⟨some 99, .mv (.tmp 3), (some ((some 94), true)), [47], [3]⟩,
 ⟨some 100, .slice 1 (.tmp 99) (some (.cst (.int .i64 1))) (some (.cst (.int .i64 2))) none, (some ((some 94), true)), [52, 47], [99]⟩,
 ⟨some 101, .build [.nils, (.int .i64 0)] [(0, 1, (.tmp 100))], (some ((some 94), true)), [53, 47], [100]⟩,
 ⟨some 102, .call true i_Xq59 [(.tmp 98), (.tmp 101)], (some ((some 94), true)), [51, 54, 51, 47], [98, 101]⟩,
 ⟨some 103, .pick (.tmp 94) (.tmp 102) (.cst (.bool false)), none, [47, 55], [94, 102]⟩,
 ⟨some 104, .mv (.tmp 103), none, [56, 55], [103]⟩,
 ⟨some 105, .faddr 0 (.tmp 7), (some ((some 104), true)), [57], [7]⟩,
 ⟨some 106, .load false 1 (.tmp 105), (some ((some 104), true)), [58, 57], [105]⟩,
 ⟨some 107, .len .sl (.tmp 106), (some ((some 104), true)), [59, 57], [106]⟩,
 ⟨some 108, .bin .eql (.tmp 107) (.cst (.int .i64 4)), (some ((some 104), true)), [60, 57], [107]⟩,
 ⟨some 109, .pick (.tmp 104) (.tmp 108) (.cst (.bool false)), none, [57, 61], [104, 108]⟩,
 ⟨some 110, .mv (.tmp 109), none, [62, 57], [109]⟩,
 ⟨some 111, .faddr 0 (.tmp 7), (some ((some 110), true)), [63], [7]⟩,
 ⟨some 112, .load false 1 (.tmp 111), (some ((some 110), true)), [64, 63], [111]⟩,
 ⟨some 113, .iaddr 1 (.tmp 112) (.cst (.int .i64 0)), (some ((some 110), true)), [65, 63], [112]⟩,
 ⟨some 114, .load false 1 (.tmp 113), (some ((some 110), true)), [66, 63], [113]⟩,
 ⟨some 115, .load true 3 (.tmp 1), (some ((some 110), true)), [63], [1]⟩,
 ⟨some 116, .call true i_Xq68 [(.cst (.str ⟨#[97]⟩))], (some ((some 110), true)), [63, 63], []⟩,
 ⟨some 117, .build [(.int .i64 0), (.int .i64 0), (.str ⟨#[]⟩)] [], (some ((some 110), true)), [63], []⟩,
 ⟨some 118, .build [(.int .i64 0), (.int .i64 0), (.str ⟨#[]⟩)] [], (some ((some 110), true)), [63], []⟩,
 ⟨some 119, .flist 3 4 [(.int .i64 0), (.int .i64 0), (.str ⟨#[]⟩)] [(0, (.tmp 115)), (1, (.tmp 116)), (2, (.tmp 117)), (3, (.tmp 118))], (some ((some 110), true)), [68, 69, 70, 71, 63], [115, 116, 117, 118]⟩,
 ⟨some 120, .call true i_Xq63 [(.tmp 114), (.tmp 119)], (some ((some 110), true)), [67, 72, 69, 63], [114, 119]⟩,
 ⟨some 121, .pick (.tmp 110) (.tmp 120) (.cst (.bool false)), none, [63, 73], [110, 120]⟩,
 ⟨some 122, .mv (.tmp 121), none, [74, 73], [121]⟩,
 ⟨some 123, .mv (.tmp 3), (some ((some 122), true)), [75], [3]⟩,
 ⟨some 124, .mv (.tmp 4), (some ((some 122), true)), [75], [4]⟩,
 ⟨some 125, .build [(.int .i64 0), (.int .i64 0)] [(0, 1, (.cst (.int .i64 0))), (1, 1, (.cst (.int .i64 2)))], (some ((some 122), true)), [75], []⟩,
 ⟨some 126, .call true i_Xq47 [(.tmp 123), (.tmp 124), (.tmp 125)], (some ((some 122), true)), [76, 77, 78, 75, 75], [123, 124, 125]⟩,
 ⟨some 127, .field 1 1 false (.tmp 126), (some ((some 122), true)), [79, 75], [126]⟩,
 ⟨some 128, .bin .eql (.tmp 127) (.cst (.int .i64 1)), (some ((some 122), true)), [80, 75], [127]⟩,
 ⟨some 129, .pick (.tmp 122) (.tmp 128) (.cst (.bool false)), none, [75, 81], [122, 128]⟩,
 ⟨some 130, .mv (.tmp 129), none, [82, 79], [129]⟩,
 ⟨some 131, .mv (.tmp 3), (some ((some 130), true)), [83], [3]⟩,
 ⟨some 132, .mv (.tmp 4), (some ((some 130), true)), [83], [4]⟩,
 ⟨some 133, .build [.nils, .nils, (.int .i64 0), (.int .i64 0)] [(0, 1, (.tmp 131)), (1, 1, (.tmp 132))], (some ((some 130), true)), [84, 85, 83], [131, 132]⟩,
 ⟨some 134, .call true i_Xq49 [(.tmp 133), (.cst (.int .i64 33))], (some ((some 130), true)), [86, 83, 83], [133]⟩,
 ⟨some 135, .field 1 1 false (.tmp 134), (some ((some 130), true)), [87, 83], [134]⟩,
 ⟨some 136, .bin .eql (.tmp 135) (.cst (.int .i64 1)), (some ((some 130), true)), [88, 83], [135]⟩,
 ⟨some 137, .pick (.tmp 130) (.tmp 136) (.cst (.bool false)), none, [83, 89], [130, 136]⟩,
 ⟨some 0, .mv (.tmp 137), none, [90, 87, 0, 1, 2, 3, 4, 5, 6, 7, 8, 9, 10, 11, 12, 13, 14, 15, 16, 17, 18, 19, 20, 21, 22, 23, 24, 25, 26, 27, 28, 29, 30, 31, 32, 33, 34, 35, 36, 37, 38, 39, 40, 41, 42, 43, 44, 45, 46, 47, 48, 49, 50, 51, 52, 53, 54, 55, 56, 57, 58, 59, 60, 61, 62, 63, 64, 65, 66, 67, 68, 69, 70, 71, 72, 73, 74, 75, 76, 77, 78, 79, 80, 81, 82, 83, 84, 85, 86, 87, 88, 89, 90], [137]⟩])
 .ret))))))))
def Xq29 : AFunc := ⟨138, [.tmp 0], Xq29.main, false⟩
def Xq56.main : ACode := (.seq (.region false [
 ⟨some 2, .alloc [(.int .i64 0), (.int .i64 0), (.str ⟨#[]⟩)], none, [], []⟩])
 (.seq (.region false [
 ⟨some 3, .mv (.tmp 0), none, [], []⟩,
 ⟨some 4, .bin .mul (.tmp 3) (.cst (.int .i64 1000000)), none, [], []⟩,
 ⟨some 5, .call true i_Xq69 [(.tmp 4)], none, [], []⟩,
 ⟨none, .store 3 (.tmp 2) (.tmp 5), none, [], []⟩])
 .ret))
def Xq56 : AFunc := ⟨6, [.cell 2 true 3], Xq56.main, false⟩
def Xq61.main : ACode := (.seq (.seq (.region false [
 ⟨some 1, .box 6 (.tmp 0), none, [], []⟩,
 ⟨some 2, .alloc [.nils, .nils, (.int .i64 0), (.int .i64 0)], none, [], []⟩])
 (.ghost (.kill [0])))
 (.seq (.seq (.region true [
 ⟨some 5, .faddr 2 (.tmp 1), none, [], [1]⟩,
 ⟨some 6, .load false 1 (.tmp 5), none, [0], [5]⟩,
 ⟨some 7, .bin .rem (.tmp 6) (.cst (.int .u8 3)), none, [1], [6]⟩,
 ⟨some 8, .conv .i64 (.tmp 7), none, [2], [7]⟩,
 ⟨some 9, .bin .add (.cst (.int .i64 1)) (.tmp 8), none, [3], [8]⟩,
 ⟨some 10, .faddr 3 (.tmp 1), none, [], [1]⟩,
 ⟨some 11, .load false 1 (.tmp 10), none, [5], [10]⟩,
 ⟨some 12, .bin .rem (.tmp 11) (.cst (.int .u8 3)), none, [6], [11]⟩,
 ⟨some 13, .conv .i64 (.tmp 12), none, [7], [12]⟩,
 ⟨some 14, .bin .add (.cst (.int .i64 1)) (.tmp 13), none, [8], [13]⟩,
 ⟨some 3, .mv (.tmp 9), none, [4, 0, 1, 2, 3, 4], [9]⟩,
 ⟨some 4, .mv (.tmp 14), none, [9, 10, 0, 1, 2, 3, 4, 5, 6, 7, 8, 9, 10], [14]⟩])
 (.ghost (.kill [5, 6, 7, 8, 9, 10, 11, 12, 13, 14])))
 (.seq (.region true [
 ⟨some 15, .faddr 0 (.tmp 1), none, [], [1]⟩,
 ⟨some 16, .load false 1 (.tmp 15), none, [0], [15]⟩,
 ⟨some 17, .mv (.tmp 3), none, [], [3]⟩,
 ⟨some 18, .call true i_Xq65 [(.tmp 16), (.tmp 17)], none, [1, 2], [16, 17]⟩,
 ⟨some 19, .faddr 1 (.tmp 1), none, [], [1]⟩,
 ⟨some 20, .load false 1 (.tmp 19), none, [4], [19]⟩,
 ⟨some 21, .mv (.tmp 4), none, [], [4]⟩,
 ⟨some 22, .call true i_Xq65 [(.tmp 20), (.tmp 21)], none, [5, 6, 3], [20, 21]⟩,
 ⟨some 23, .faddr 4 (.tmp 1), none, [], [1]⟩,
 ⟨some 24, .iaddrA 2 1 (.tmp 23) (.cst (.int .i64 0)), none, [8], [23]⟩,
 ⟨some 25, .load false 1 (.tmp 24), none, [9], [24]⟩,
 ⟨some 26, .conv .i64 (.tmp 25), none, [10], [25]⟩,
 ⟨some 27, .mv (.tmp 3), none, [], [3]⟩,
 ⟨some 28, .bin .rem (.tmp 26) (.tmp 27), none, [11, 12], [26, 27]⟩,
 ⟨some 29, .faddr 4 (.tmp 1), none, [], [1]⟩,
 ⟨some 30, .iaddrA 2 1 (.tmp 29) (.cst (.int .i64 1)), none, [14], [29]⟩,
 ⟨some 31, .load false 1 (.tmp 30), none, [15], [30]⟩,
 ⟨some 32, .conv .i64 (.tmp 31), none, [16], [31]⟩,
 ⟨some 33, .mv (.tmp 4), none, [], [4]⟩,
 ⟨some 34, .bin .rem (.tmp 32) (.tmp 33), none, [17, 18], [32, 33]⟩,
 ⟨some 35, .build [(.int .i64 0), (.int .i64 0)] [(0, 1, (.tmp 28)), (1, 1, (.tmp 34))], none, [13, 19], [28, 34]⟩,
 ⟨some 36, .build [.nils, .nils, (.int .i64 0), (.int .i64 0)] [(0, 1, (.tmp 18)), (1, 1, (.tmp 22)), (2, 2, (.tmp 35))], none, [3, 7, 20], [18, 22, 35]⟩,
 ⟨none, .store 4 (.tmp 2) (.tmp 36), none, [21, 7, 0, 1, 2, 3, 4, 5, 6, 7, 8, 9, 10, 11, 12, 13, 14, 15, 16, 17, 18, 19, 20, 21], [2, 36]⟩])
 .ret)))
def Xq61 : AFunc := ⟨37, [.cell 2 true 4], Xq61.main, false⟩
def Xq59.main : ACode := (.seq (.seq (.region false [
 ⟨some 2, .box 2 (.tmp 0), none, [], []⟩,
 ⟨some 3, .box 2 (.tmp 1), none, [], []⟩,
 ⟨some 4, .mv (.cst (.bool false)), none, [], []⟩])
 (.ghost (.kill [0, 1, 4])))
 (.seq (.region false [
 ⟨some 5, .faddr 1 (.tmp 2), none, [], []⟩,
 ⟨some 6, .load false 1 (.tmp 5), none, [], []⟩,
 ⟨some 7, .faddr 1 (.tmp 3), none, [], []⟩,
 ⟨some 8, .load false 1 (.tmp 7), none, [], []⟩,
 ⟨some 9, .bin .eql (.tmp 6) (.tmp 8), none, [], []⟩,
 ⟨some 10, .mv (.tmp 9), none, [], []⟩,
 ⟨some 11, .faddr 0 (.tmp 2), (some ((some 10), true)), [], []⟩,
 ⟨some 12, .load false 1 (.tmp 11), (some ((some 10), true)), [], []⟩,
 ⟨some 13, .faddr 0 (.tmp 3), (some ((some 10), true)), [], []⟩,
 ⟨some 14, .load false 1 (.tmp 13), (some ((some 10), true)), [], []⟩,
 ⟨some 15, .call true i_Xq32 [(.tmp 12), (.tmp 14)], (some ((some 10), true)), [], []⟩,
 ⟨some 16, .pick (.tmp 10) (.tmp 15) (.cst (.bool false)), none, [], []⟩,
 ⟨some 4, .mv (.tmp 16), none, [], []⟩])
 .ret))
def Xq59 : AFunc := ⟨17, [.tmp 4], Xq59.main, false⟩
def Xq47.main : ACode := (.seq (.seq (.region false [
 ⟨some 5, .box 2 (.tmp 2), none, [], []⟩,
 ⟨some 6, .alloc [.nils, (.int .i64 0)], none, [], []⟩])
 (.ghost (.kill [2])))
 (.seq (.seq (.region false [
 ⟨some 10, .mv (.tmp 0), none, [], []⟩,
 ⟨some 11, .mv (.tmp 1), none, [], []⟩,
 ⟨some 12, .load true 2 (.tmp 5), none, [], []⟩,
 ⟨some 13, .call true i_Xq35 [(.tmp 10), (.tmp 11), (.tmp 12)], none, [], []⟩,
 ⟨some 9, .mv (.tmp 13), none, [], []⟩,
 ⟨some 14, .extr (.tmp 9) 0, none, [], []⟩,
 ⟨some 15, .extr (.tmp 9) 1, none, [], []⟩,
 ⟨some 7, .mv (.tmp 14), none, [], []⟩,
 ⟨some 8, .mv (.tmp 15), none, [], []⟩])
 (.ghost (.kill [0, 1, 5, 9, 10, 11, 12, 13, 14, 15])))
 (.seq (.region false [
 ⟨some 16, .mv (.tmp 7), none, [], []⟩,
 ⟨some 17, .mv (.tmp 8), none, [], []⟩,
 ⟨some 18, .build [.nils, (.int .i64 0)] [(0, 1, (.tmp 16)), (1, 1, (.tmp 17))], none, [], []⟩,
 ⟨none, .store 2 (.tmp 6) (.tmp 18), none, [], []⟩])
 .ret)))
def Xq47 : AFunc := ⟨19, [.cell 6 true 2], Xq47.main, false⟩
def Xq67.main : ACode := (.seq (.seq (.region false [
 ⟨some 5, .box 2 (.tmp 2), none, [], []⟩,
 ⟨some 6, .alloc [.nils, (.int .i64 0)], none, [], []⟩])
 (.ghost (.kill [2])))
 (.seq (.seq (.region false [
 ⟨some 10, .mv (.tmp 0), none, [], []⟩,
 ⟨some 11, .mv (.tmp 1), none, [], []⟩,
 ⟨some 12, .load true 2 (.tmp 5), none, [], []⟩,
 ⟨some 13, .call true i_Xq55 [(.tmp 10), (.tmp 11), (.tmp 12)], none, [], []⟩,
 ⟨some 9, .mv (.tmp 13), none, [], []⟩,
 ⟨some 14, .extr (.tmp 9) 0, none, [], []⟩,
 ⟨some 15, .extr (.tmp 9) 1, none, [], []⟩,
 ⟨some 7, .mv (.tmp 14), none, [], []⟩,
 ⟨some 8, .mv (.tmp 15), none, [], []⟩])
 (.ghost (.kill [0, 1, 5, 9, 10, 11, 12, 13, 14, 15])))
 (.seq (.region false [
 ⟨some 16, .mv (.tmp 7), none, [], []⟩,
 ⟨some 17, .mv (.tmp 8), none, [], []⟩,
 ⟨some 18, .build [.nils, (.int .i64 0)] [(0, 1, (.tmp 16)), (1, 1, (.tmp 17))], none, [], []⟩,
 ⟨none, .store 2 (.tmp 6) (.tmp 18), none, [], []⟩])
 .ret)))
def Xq67 : AFunc := ⟨19, [.cell 6 true 2], Xq67.main, false⟩
def Xq44.main : ACode := (.seq (.seq (.region false [
 ⟨some 5, .box 2 (.tmp 2), none, [], []⟩,
 ⟨some 6, .alloc [.nils, (.int .i64 0)], none, [], []⟩])
 (.ghost (.kill [2])))
 (.seq (.seq (.region false [
 ⟨some 10, .mv (.tmp 0), none, [], []⟩,
 ⟨some 11, .mv (.tmp 1), none, [], []⟩,
 ⟨some 12, .load true 2 (.tmp 5), none, [], []⟩,
 ⟨some 13, .call true i_Xq42 [(.tmp 10), (.tmp 11), (.tmp 12)], none, [], []⟩,
 ⟨some 9, .mv (.tmp 13), none, [], []⟩,
 ⟨some 14, .extr (.tmp 9) 0, none, [], []⟩,
 ⟨some 15, .extr (.tmp 9) 1, none, [], []⟩,
 ⟨some 7, .mv (.tmp 14), none, [], []⟩,
 ⟨some 8, .mv (.tmp 15), none, [], []⟩])
 (.ghost (.kill [0, 1, 5, 9, 10, 11, 12, 13, 14, 15])))
 (.seq (.region false [
 ⟨some 16, .mv (.tmp 7), none, [], []⟩,
 ⟨some 17, .mv (.tmp 8), none, [], []⟩,
 ⟨some 18, .build [.nils, (.int .i64 0)] [(0, 1, (.tmp 16)), (1, 1, (.tmp 17))], none, [], []⟩,
 ⟨none, .store 2 (.tmp 6) (.tmp 18), none, [], []⟩])
 .ret)))
def Xq44 : AFunc := ⟨19, [.cell 6 true 2], Xq44.main, false⟩
def Xq66.main : ACode := (.seq (.seq (.region false [
 ⟨some 5, .box 2 (.tmp 2), none, [], []⟩,
 ⟨some 6, .alloc [.nils, (.int .i64 0)], none, [], []⟩])
 (.ghost (.kill [2])))
 (.seq (.seq (.region false [
 ⟨some 10, .mv (.tmp 0), none, [], []⟩,
 ⟨some 11, .mv (.tmp 1), none, [], []⟩,
 ⟨some 12, .load true 2 (.tmp 5), none, [], []⟩,
 ⟨some 13, .call true i_Xq57 [(.tmp 10), (.tmp 11), (.tmp 12)], none, [], []⟩,
 ⟨some 9, .mv (.tmp 13), none, [], []⟩,
 ⟨some 14, .extr (.tmp 9) 0, none, [], []⟩,
 ⟨some 15, .extr (.tmp 9) 1, none, [], []⟩,
 ⟨some 7, .mv (.tmp 14), none, [], []⟩,
 ⟨some 8, .mv (.tmp 15), none, [], []⟩])
 (.ghost (.kill [0, 1, 5, 9, 10, 11, 12, 13, 14, 15])))
 (.seq (.region false [
 ⟨some 16, .mv (.tmp 7), none, [], []⟩,
 ⟨some 17, .mv (.tmp 8), none, [], []⟩,
 ⟨some 18, .build [.nils, (.int .i64 0)] [(0, 1, (.tmp 16)), (1, 1, (.tmp 17))], none, [], []⟩,
 ⟨none, .store 2 (.tmp 6) (.tmp 18), none, [], []⟩])
 .ret)))
def Xq66 : AFunc := ⟨19, [.cell 6 true 2], Xq66.main, false⟩
def Xq62.main : ACode := (.seq (.seq (.region false [
 ⟨some 5, .box 2 (.tmp 2), none, [], []⟩,
 ⟨some 6, .alloc [.nils, (.int .i64 0)], none, [], []⟩])
 (.ghost (.kill [2])))
 (.seq (.seq (.region false [
 ⟨some 10, .mv (.tmp 0), none, [], []⟩,
 ⟨some 11, .mv (.tmp 1), none, [], []⟩,
 ⟨some 12, .load true 2 (.tmp 5), none, [], []⟩,
 ⟨some 13, .call true i_Xq54 [(.tmp 10), (.tmp 11), (.tmp 12)], none, [], []⟩,
 ⟨some 9, .mv (.tmp 13), none, [], []⟩,
 ⟨some 14, .extr (.tmp 9) 0, none, [], []⟩,
 ⟨some 15, .extr (.tmp 9) 1, none, [], []⟩,
 ⟨some 7, .mv (.tmp 14), none, [], []⟩,
 ⟨some 8, .mv (.tmp 15), none, [], []⟩])
 (.ghost (.kill [0, 1, 5, 9, 10, 11, 12, 13, 14, 15])))
 (.seq (.region false [
 ⟨some 16, .mv (.tmp 7), none, [], []⟩,
 ⟨some 17, .mv (.tmp 8), none, [], []⟩,
 ⟨some 18, .build [.nils, (.int .i64 0)] [(0, 1, (.tmp 16)), (1, 1, (.tmp 17))], none, [], []⟩,
 ⟨none, .store 2 (.tmp 6) (.tmp 18), none, [], []⟩])
 .ret)))
def Xq62 : AFunc := ⟨19, [.cell 6 true 2], Xq62.main, false⟩
def Xq49.main : ACode := (.seq (.seq (.region false [
 ⟨some 2, .box 4 (.tmp 0), none, [], []⟩,
 ⟨some 4, .alloc [.nils, (.int .i64 0)], none, [], []⟩])
 (.ghost (.kill [0])))
 (.seq (.seq (.region false [
 ⟨some 8, .faddr 0 (.tmp 2), none, [], []⟩,
 ⟨some 9, .load false 1 (.tmp 8), none, [], []⟩,
 ⟨some 10, .faddr 1 (.tmp 2), none, [], []⟩,
 ⟨some 11, .load false 1 (.tmp 10), none, [], []⟩,
 ⟨some 12, .faddr 2 (.tmp 2), none, [], []⟩,
 ⟨some 13, .load true 2 (.tmp 12), none, [], []⟩,
 ⟨some 14, .mv (.tmp 1), none, [], []⟩,
 ⟨some 15, .call true i_Xq40 [(.tmp 9), (.tmp 11), (.tmp 13), (.tmp 14)], none, [], []⟩,
 ⟨some 7, .mv (.tmp 15), none, [], []⟩,
 ⟨some 16, .extr (.tmp 7) 0, none, [], []⟩,
 ⟨some 17, .extr (.tmp 7) 1, none, [], []⟩,
 ⟨some 5, .mv (.tmp 16), none, [], []⟩,
 ⟨some 6, .mv (.tmp 17), none, [], []⟩])
 (.ghost (.kill [1, 2, 7, 8, 9, 10, 11, 12, 13, 14, 15, 16, 17])))
 (.seq (.region false [
 ⟨some 18, .mv (.tmp 5), none, [], []⟩,
 ⟨some 19, .mv (.tmp 6), none, [], []⟩,
 ⟨some 20, .build [.nils, (.int .i64 0)] [(0, 1, (.tmp 18)), (1, 1, (.tmp 19))], none, [], []⟩,
 ⟨none, .store 2 (.tmp 4) (.tmp 20), none, [], []⟩])
 .ret)))
def Xq49 : AFunc := ⟨21, [.cell 4 true 2], Xq49.main, false⟩
def Xq39.c0 : ACode := (.seq (.region false [
 ⟨some 4, .mv (.cst (.bool true)), none, [], []⟩])
 .ret)
def Xq39.b0 : ACode := (.seq (.seq (.seq (.region false [
 ⟨some 6, .mv (.tmp 5), none, [], []⟩,
 ⟨some 7, .mv (.tmp 0), none, [], []⟩,
 ⟨some 8, .len .sl (.tmp 7), none, [], []⟩,
 ⟨some 9, .bin .lss (.tmp 6) (.tmp 8), none, [], []⟩])
 (.ghost (.kill [6, 7, 8])))
 (.cond (.tmp 9) .skip
 (.exit 0)))
 (.seq (.seq (.block 1 (.seq (.seq (.region true [
 ⟨some 12, .mv (.tmp 0), none, [], [0]⟩,
 ⟨some 13, .mv (.tmp 5), none, [], [5]⟩,
 ⟨some 14, .bin .sub (.tmp 13) (.cst (.int .i64 1)), none, [1], [13]⟩,
 ⟨some 15, .iaddr 1 (.tmp 12) (.tmp 14), none, [0, 2], [12, 14]⟩,
 ⟨some 16, .load false 1 (.tmp 15), none, [3], [15]⟩,
 ⟨some 17, .mv (.tmp 1), none, [], [1]⟩,
 ⟨some 18, .iaddr 3 (.tmp 16) (.tmp 17), none, [4, 5], [16, 17]⟩,
 ⟨some 19, .load true 3 (.tmp 18), none, [6], [18]⟩,
 ⟨some 20, .mv (.tmp 0), none, [], [0]⟩,
 ⟨some 21, .mv (.tmp 5), none, [], [5]⟩,
 ⟨some 22, .iaddr 1 (.tmp 20) (.tmp 21), none, [8, 9], [20, 21]⟩,
 ⟨some 23, .load false 1 (.tmp 22), none, [10], [22]⟩,
 ⟨some 24, .mv (.tmp 1), none, [], [1]⟩,
 ⟨some 25, .iaddr 3 (.tmp 23) (.tmp 24), none, [11, 12], [23, 24]⟩,
 ⟨some 26, .load true 3 (.tmp 25), none, [13], [25]⟩,
 ⟨some 27, .call true i_Xq70 [(.tmp 19), (.tmp 26)], none, [7, 14], [19, 26]⟩,
 ⟨some 28, .bin .gtr (.tmp 27) (.cst (.int .i64 0)), none, [15], [27]⟩])
 (.ghost (.kill [9, 12, 13, 14, 15, 16, 17, 18, 19, 20, 21, 22, 23, 24, 25, 26, 27])))
 (.cond (.tmp 28) (.seq (.region false [
   ⟨some 4, .mv (.cst (.bool false)), none, [], []⟩])
  .ret)
 .skip)))
 (.ghost (.kill [28])))
 (.seq (.region false [
 ⟨some 10, .mv (.tmp 5), none, [], []⟩,
 ⟨some 11, .bin .add (.tmp 10) (.cst (.int .i64 1)), none, [], []⟩,
 ⟨some 5, .mv (.tmp 11), none, [], []⟩])
 (.ghost (.kill [10, 11])))))
def Xq39.main : ACode := (.seq (.seq (.region false [
 ⟨some 4, .mv (.cst (.bool false)), none, [], []⟩])
 (.ghost (.kill [4])))
 (.seq (.seq (.region false [
 ⟨some 5, .mv (.cst (.int .i64 1)), none, [], []⟩])
 (.seq (.block 0 (.loop Xq39.b0))
 (.ghost (.kill [0, 1, 5, 9]))))
 Xq39.c0))
def Xq39.k0 : List Item := [.inBlock 0, .code (.ghost (.kill [0, 1, 5, 9])), .code Xq39.c0]
def Xq39 : AFunc := ⟨29, [.tmp 4], Xq39.main, false⟩
def Xq63.main : ACode := (.seq (.seq (.region false [
 ⟨some 4, .mv (.cst (.bool false)), none, [], []⟩])
 (.ghost (.kill [4])))
 (.seq (.region false [
 ⟨some 5, .mv (.tmp 0), none, [], []⟩,
 ⟨some 6, .mv (.tmp 1), none, [], []⟩,
 ⟨some 7, .call true i_Xq36 [(.tmp 5), (.tmp 6)], none, [], []⟩,
 ⟨some 8, .bin .eql (.tmp 7) (.cst (.int .i64 0)), none, [], []⟩,
 ⟨some 4, .mv (.tmp 8), none, [], []⟩])
 .ret))
def Xq63 : AFunc := ⟨9, [.tmp 4], Xq63.main, false⟩
def Xq32.c0 : ACode := (.seq (.region false [
 ⟨some 4, .mv (.cst (.bool true)), none, [], []⟩])
 .ret)
def Xq32.c1 : ACode := (.ghost (.kill [0, 1, 5, 14]))
def Xq32.b0 : ACode := (.seq (.seq (.seq (.region false [
 ⟨some 11, .mv (.tmp 5), none, [], []⟩,
 ⟨some 12, .mv (.tmp 0), none, [], []⟩,
 ⟨some 13, .len .sl (.tmp 12), none, [], []⟩,
 ⟨some 14, .bin .lss (.tmp 11) (.tmp 13), none, [], []⟩])
 (.ghost (.kill [11, 12, 13])))
 (.cond (.tmp 14) .skip
 (.exit 0)))
 (.seq (.seq (.block 1 (.seq (.seq (.region true [
 ⟨some 17, .mv (.tmp 0), none, [], [0]⟩,
 ⟨some 18, .mv (.tmp 5), none, [], [5]⟩,
 ⟨some 19, .iaddr 1 (.tmp 17) (.tmp 18), none, [0, 1], [17, 18]⟩,
 ⟨some 20, .load false 1 (.tmp 19), none, [2], [19]⟩,
 ⟨some 21, .mv (.tmp 1), none, [], [1]⟩,
 ⟨some 22, .mv (.tmp 5), none, [], [5]⟩,
 ⟨some 23, .iaddr 1 (.tmp 21) (.tmp 22), none, [4, 5], [21, 22]⟩,
 ⟨some 24, .load false 1 (.tmp 23), none, [6], [23]⟩,
 ⟨some 25, .call true i_Xq63 [(.tmp 20), (.tmp 24)], none, [3, 7], [20, 24]⟩,
 ⟨some 26, .un .not (.tmp 25), none, [8], [25]⟩])
 (.ghost (.kill [14, 17, 18, 19, 20, 21, 22, 23, 24, 25])))
 (.cond (.tmp 26) (.seq (.region false [
   ⟨some 4, .mv (.cst (.bool false)), none, [], []⟩])
  .ret)
 .skip)))
 (.ghost (.kill [26])))
 (.seq (.region false [
 ⟨some 15, .mv (.tmp 5), none, [], []⟩,
 ⟨some 16, .bin .add (.tmp 15) (.cst (.int .i64 1)), none, [], []⟩,
 ⟨some 5, .mv (.tmp 16), none, [], []⟩])
 (.ghost (.kill [15, 16])))))
def Xq32.main : ACode := (.seq (.seq (.region false [
 ⟨some 4, .mv (.cst (.bool false)), none, [], []⟩])
 (.ghost (.kill [4])))
 (.seq (.seq (.seq (.region false [
 ⟨some 6, .mv (.tmp 0), none, [], []⟩,
 ⟨some 7, .len .sl (.tmp 6), none, [], []⟩,
 ⟨some 8, .mv (.tmp 1), none, [], []⟩,
 ⟨some 9, .len .sl (.tmp 8), none, [], []⟩,
 ⟨some 10, .bin .neq (.tmp 7) (.tmp 9), none, [], []⟩])
 (.ghost (.kill [6, 7, 8, 9])))
 (.cond (.tmp 10) (.seq (.region false [
   ⟨some 4, .mv (.cst (.bool false)), none, [], []⟩])
  .ret)
 .skip))
 (.seq (.seq (.seq (.region false [
 ⟨some 5, .mv (.cst (.int .i64 0)), none, [], []⟩])
 (.ghost (.kill [10])))
 (.seq (.block 0 (.loop Xq32.b0))
 Xq32.c1))
 Xq32.c0)))
def Xq32.k0 : List Item := [.inBlock 0, .code Xq32.c1, .code Xq32.c0]
def Xq32 : AFunc := ⟨27, [.tmp 4], Xq32.main, false⟩
def Xq43.main : ACode := (.seq (.seq (.region false [
 ⟨some 4, .mv (.cst .nils), none, [], []⟩])
 (.ghost (.kill [4])))
 (.seq (.seq (.region false [
 ⟨some 6, .mv (.tmp 0), none, [], []⟩,
 ⟨some 7, .call false i_Xq13 [(.tmp 6)], none, [], []⟩,
 ⟨some 5, .mv (.tmp 7), none, [], []⟩])
 (.ghost (.kill [0, 6, 7])))
 (.seq (.seq (.region false [
 ⟨some 8, .mv (.tmp 5), none, [], []⟩,
 ⟨some 9, .mv (.tmp 1), none, [], []⟩,
 ⟨some 10, .call true i_Xq38 [(.tmp 9)], none, [], []⟩,
 ⟨some 11, .call false i_Xq3 [(.tmp 8), (.tmp 10)], none, [], []⟩])
 (.ghost (.kill [1, 8, 9, 10, 11])))
 (.seq (.region false [
 ⟨some 12, .mv (.tmp 5), none, [], []⟩,
 ⟨some 4, .mv (.tmp 12), none, [], []⟩])
 .ret))))
def Xq43 : AFunc := ⟨13, [.tmp 4], Xq43.main, false⟩
def Xq68.main : ACode := (.seq (.region false [
 ⟨some 2, .alloc [(.int .i64 0), (.int .i64 0), (.str ⟨#[]⟩)], none, [], []⟩])
 (.seq (.region false [
 ⟨some 3, .mv (.tmp 0), none, [], []⟩,
 ⟨some 4, .build [(.int .i64 0), (.int .i64 0), (.str ⟨#[]⟩)] [(0, 1, (.cst (.int .i64 3))), (2, 1, (.tmp 3))], none, [], []⟩,
 ⟨none, .store 3 (.tmp 2) (.tmp 4), none, [], []⟩])
 .ret))
def Xq68 : AFunc := ⟨5, [.cell 2 true 3], Xq68.main, false⟩
def Xq69.main : ACode := (.seq (.region false [
 ⟨some 2, .alloc [(.int .i64 0), (.int .i64 0), (.str ⟨#[]⟩)], none, [], []⟩])
 (.seq (.region false [
 ⟨some 3, .mv (.tmp 0), none, [], []⟩,
 ⟨some 4, .build [(.int .i64 0), (.int .i64 0), (.str ⟨#[]⟩)] [(0, 1, (.cst (.int .i64 2))), (1, 1, (.tmp 3))], none, [], []⟩,
 ⟨none, .store 3 (.tmp 2) (.tmp 4), none, [], []⟩])
 .ret))
def Xq69 : AFunc := ⟨5, [.cell 2 true 3], Xq69.main, false⟩
def Xq65.c0 : ACode := (.seq (.region false [
 ⟨some 58, .mv (.tmp 5), none, [], []⟩,
 ⟨some 4, .mv (.tmp 58), none, [], []⟩])
 .ret)
def Xq65.c1 : ACode := (.ghost (.kill [0, 1, 6, 24]))
def Xq65.c2 : ACode := (.seq (.region false [
 ⟨some 25, .mv (.tmp 6), none, [], []⟩,
 ⟨some 26, .mv (.tmp 1), none, [], []⟩,
 ⟨some 27, .bin .add (.tmp 25) (.tmp 26), none, [], []⟩,
 ⟨some 6, .mv (.tmp 27), none, [], []⟩])
 (.ghost (.kill [25, 26, 27])))
def Xq65.c3 : ACode := (.seq (.ghost (.freeze 7))
 (.seq (.region false [
 ⟨some 54, .mv (.tmp 5), none, [], []⟩,
 ⟨some 55, .mv (.tmp 7), none, [], []⟩,
 ⟨some 56, .bslice 1 1 [.nils] [(0, (.tmp 55))], none, [], []⟩,
 ⟨some 57, .append 1 24 (.tmp 54) (.tmp 56), none, [], []⟩,
 ⟨some 5, .mv (.tmp 57), none, [], []⟩])
 (.ghost (.kill [7, 54, 55, 56, 57]))))
def Xq65.b1 : ACode := (.seq (.seq (.seq (.region false [
 ⟨some 29, .mv (.tmp 8), none, [], []⟩,
 ⟨some 30, .mv (.tmp 1), none, [], []⟩,
 ⟨some 31, .bin .lss (.tmp 29) (.tmp 30), none, [], []⟩])
 (.ghost (.kill [29, 30])))
 (.cond (.tmp 31) .skip
 (.exit 2)))
 (.seq (.trunc (.block 3 (.seq (.region true [
 ⟨some 34, .mv (.tmp 7), none, [], [7]⟩,
 ⟨some 35, .build [(.int .i64 0), (.int .i64 0), (.str ⟨#[]⟩)] [], none, [], []⟩,
 ⟨some 36, .call true i_Xq56 [(.cst (.int .i64 0))], none, [], []⟩,
 ⟨some 37, .call true i_Xq56 [(.cst (.int .i64 1))], none, [2], []⟩,
 ⟨some 38, .call true i_Xq68 [(.cst (.str ⟨#[97]⟩))], none, [3], []⟩,
 ⟨some 39, .call true i_Xq56 [(.cst (.int .i64 2))], none, [4], []⟩,
 ⟨some 40, .call true i_Xq64 [(.cst (.bool true))], none, [5], []⟩,
 ⟨some 41, .call true i_Xq68 [(.cst (.str ⟨#[]⟩))], none, [6], []⟩,
 ⟨some 42, .bslice 3 7 [(.int .i64 0), (.int .i64 0), (.str ⟨#[]⟩)] [(0, (.tmp 35)), (1, (.tmp 36)), (2, (.tmp 37)), (3, (.tmp 38)), (4, (.tmp 39)), (5, (.tmp 40)), (6, (.tmp 41))], none, [1, 2, 3, 4, 5, 6, 7], [35, 36, 37, 38, 39, 40, 41]⟩,
 ⟨some 43, .mv (.tmp 0), none, [], [0]⟩,
 ⟨some 44, .mv (.tmp 6), none, [], [6]⟩,
 ⟨some 45, .mv (.tmp 8), none, [], [8]⟩,
 ⟨some 46, .bin .add (.tmp 44) (.tmp 45), none, [10, 11], [44, 45]⟩,
 ⟨some 47, .iaddr 1 (.tmp 43) (.tmp 46), none, [9, 12], [43, 46]⟩,
 ⟨some 48, .load false 1 (.tmp 47), none, [13], [47]⟩,
 ⟨some 49, .bin .rem (.tmp 48) (.cst (.int .u8 7)), none, [14], [48]⟩,
 ⟨some 50, .iaddr 3 (.tmp 42) (.tmp 49), none, [8, 15], [42, 49]⟩,
 ⟨some 51, .load true 3 (.tmp 50), none, [16], [50]⟩,
 ⟨some 52, .bslice 3 1 [(.int .i64 0), (.int .i64 0), (.str ⟨#[]⟩)] [(0, (.tmp 51))], none, [17], [51]⟩,
 ⟨some 53, .append 3 32 (.tmp 34) (.tmp 52), none, [0, 18, 7], [34, 52]⟩,
 ⟨some 7, .mv (.tmp 53), none, [19, 19, 0, 1, 2, 3, 4, 5, 6, 7, 8, 9, 10, 11, 12, 13, 14, 15, 16, 17, 18, 19], [53]⟩])
 (.ghost (.kill [31, 34, 35, 36, 37, 38, 39, 40, 41, 42, 43, 44, 45, 46, 47, 48, 49, 50, 51, 52, 53])))))
 (.seq (.region false [
 ⟨some 32, .mv (.tmp 8), none, [], []⟩,
 ⟨some 33, .bin .add (.tmp 32) (.cst (.int .i64 1)), none, [], []⟩,
 ⟨some 8, .mv (.tmp 33), none, [], []⟩])
 (.ghost (.kill [32, 33])))))
def Xq65.b0 : ACode := (.seq (.seq (.seq (.region false [
 ⟨some 10, .mv (.tmp 6), none, [], []⟩,
 ⟨some 11, .mv (.tmp 1), none, [], []⟩,
 ⟨some 12, .bin .add (.tmp 10) (.tmp 11), none, [], []⟩,
 ⟨some 13, .mv (.tmp 0), none, [], []⟩,
 ⟨some 14, .len .sl (.tmp 13), none, [], []⟩,
 ⟨some 15, .bin .leq (.tmp 12) (.tmp 14), none, [], []⟩,
 ⟨some 16, .mv (.tmp 15), none, [], []⟩,
 ⟨some 17, .mv (.tmp 1), (some ((some 16), true)), [], []⟩,
 ⟨some 18, .bin .gtr (.tmp 17) (.cst (.int .i64 0)), (some ((some 16), true)), [], []⟩,
 ⟨some 19, .pick (.tmp 16) (.tmp 18) (.cst (.bool false)), none, [], []⟩,
 ⟨some 20, .mv (.tmp 19), none, [], []⟩,
 ⟨some 21, .mv (.tmp 5), (some ((some 20), true)), [], []⟩,
 ⟨some 22, .len .sl (.tmp 21), (some ((some 20), true)), [], []⟩,
 ⟨some 23, .bin .lss (.tmp 22) (.cst (.int .i64 20)), (some ((some 20), true)), [], []⟩,
 ⟨some 24, .pick (.tmp 20) (.tmp 23) (.cst (.bool false)), none, [], []⟩])
 (.ghost (.kill [10, 11, 12, 13, 14, 15, 16, 17, 18, 19, 20, 21, 22, 23])))
 (.cond (.tmp 24) .skip
 (.exit 0)))
 (.seq (.trunc (.block 1 (.seq (.seq (.region false [
 ⟨some 28, .bslice 3 0 [(.int .i64 0), (.int .i64 0), (.str ⟨#[]⟩)] [], none, [], []⟩,
 ⟨some 7, .mv (.tmp 28), none, [], []⟩])
 (.ghost (.kill [24, 28])))
 (.seq (.seq (.region false [
 ⟨some 8, .mv (.cst (.int .i64 0)), none, [], []⟩])
 (.seq (.block 2 (.loop Xq65.b1))
 (.ghost (.kill [8, 31]))))
 Xq65.c3))))
 Xq65.c2))
def Xq65.main : ACode := (.seq (.seq (.region false [
 ⟨some 4, .mv (.cst .nils), none, [], []⟩])
 (.ghost (.kill [4])))
 (.seq (.seq (.region false [
 ⟨some 9, .bslice 1 0 [.nils] [], none, [], []⟩,
 ⟨some 5, .mv (.tmp 9), none, [], []⟩])
 (.ghost (.kill [9])))
 (.seq (.seq (.region false [
 ⟨some 6, .mv (.cst (.int .i64 0)), none, [], []⟩])
 (.seq (.block 0 (.loop Xq65.b0))
 Xq65.c1))
 Xq65.c0)))
def Xq65.k1 (m0 : Nat) : List Item := [.inBlock 2, .code (.ghost (.kill [8, 31])), .code Xq65.c3, .inBlock 1, .inTrunc m0, .code Xq65.c2, .inLoop Xq65.b0, .inBlock 0, .code Xq65.c1, .code Xq65.c0]
def Xq65.k0 : List Item := [.inBlock 0, .code Xq65.c1, .code Xq65.c0]
def Xq65 : AFunc := ⟨59, [.tmp 4], Xq65.main, false⟩
def Xq35.main : ACode := (.seq (.seq (.region false [
 ⟨some 5, .box 2 (.tmp 2), none, [], []⟩,
 ⟨some 6, .mv (.cst .nils), none, [], []⟩,
 ⟨some 7, .mv (.cst (.int .i64 0)), none, [], []⟩])
 (.ghost (.kill [2, 6, 7])))
 (.seq (.seq (.seq (.region false [
 ⟨some 8, .mv (.tmp 0), none, [], []⟩,
 ⟨some 9, .mv (.tmp 1), none, [], []⟩,
 ⟨some 10, .load true 2 (.tmp 5), none, [], []⟩,
 ⟨some 11, .call true i_Xq58 [(.tmp 8), (.tmp 9), (.tmp 10)], none, [], []⟩,
 ⟨some 12, .un .not (.tmp 11), none, [], []⟩])
 (.ghost (.kill [8, 9, 10, 11])))
 (.cond (.tmp 12) (.seq (.region false [
   ⟨some 6, .mv (.cst .nils), none, [], []⟩,
   ⟨some 7, .mv (.cst (.int .i64 1)), none, [], []⟩])
  .ret)
 .skip))
 (.seq (.region false [
 ⟨some 13, .mv (.tmp 0), none, [], []⟩,
 ⟨some 14, .mv (.tmp 1), none, [], []⟩,
 ⟨some 15, .load true 2 (.tmp 5), none, [], []⟩,
 ⟨some 16, .call true i_Xq52 [(.tmp 14), (.tmp 15)], none, [], []⟩,
 ⟨some 17, .call true i_Xq27 [(.tmp 13), (.tmp 16), (.cst (.int .i64 (-1)))], none, [], []⟩,
 ⟨some 18, .extr (.tmp 17) 0, none, [], []⟩,
 ⟨some 19, .extr (.tmp 17) 1, none, [], []⟩,
 ⟨some 6, .mv (.tmp 18), none, [], []⟩,
 ⟨some 7, .mv (.tmp 19), none, [], []⟩])
 .ret)))
def Xq35 : AFunc := ⟨20, [.tmp 6, .tmp 7], Xq35.main, false⟩
def Xq55.main : ACode := (.seq (.seq (.region false [
 ⟨some 5, .box 2 (.tmp 2), none, [], []⟩,
 ⟨some 6, .mv (.cst .nils), none, [], []⟩,
 ⟨some 7, .mv (.cst (.int .i64 0)), none, [], []⟩])
 (.ghost (.kill [2, 6, 7])))
 (.seq (.seq (.seq (.region false [
 ⟨some 8, .mv (.tmp 0), none, [], []⟩,
 ⟨some 9, .mv (.tmp 1), none, [], []⟩,
 ⟨some 10, .load true 2 (.tmp 5), none, [], []⟩,
 ⟨some 11, .call true i_Xq58 [(.tmp 8), (.tmp 9), (.tmp 10)], none, [], []⟩,
 ⟨some 12, .un .not (.tmp 11), none, [], []⟩])
 (.ghost (.kill [8, 9, 10, 11])))
 (.cond (.tmp 12) (.seq (.region false [
   ⟨some 6, .mv (.cst .nils), none, [], []⟩,
   ⟨some 7, .mv (.cst (.int .i64 1)), none, [], []⟩])
  .ret)
 .skip))
 (.seq (.region false [
 ⟨some 13, .mv (.tmp 0), none, [], []⟩,
 ⟨some 14, .mv (.tmp 1), none, [], []⟩,
 ⟨some 15, .load true 2 (.tmp 5), none, [], []⟩,
 ⟨some 16, .call true i_Xq48 [(.tmp 14), (.tmp 15)], none, [], []⟩,
 ⟨some 17, .call true i_Xq27 [(.tmp 13), (.tmp 16), (.cst (.int .i64 (-1)))], none, [], []⟩,
 ⟨some 18, .extr (.tmp 17) 0, none, [], []⟩,
 ⟨some 19, .extr (.tmp 17) 1, none, [], []⟩,
 ⟨some 6, .mv (.tmp 18), none, [], []⟩,
 ⟨some 7, .mv (.tmp 19), none, [], []⟩])
 .ret)))
def Xq55 : AFunc := ⟨20, [.tmp 6, .tmp 7], Xq55.main, false⟩
def Xq42.main : ACode := (.seq (.seq (.region false [
 ⟨some 5, .box 2 (.tmp 2), none, [], []⟩,
 ⟨some 6, .mv (.cst .nils), none, [], []⟩,
 ⟨some 7, .mv (.cst (.int .i64 0)), none, [], []⟩])
 (.ghost (.kill [2, 6, 7])))
 (.seq (.region false [
 ⟨some 8, .mv (.cst (.clo (.func i_Xq31) [] [])), none, [], []⟩])
 (.seq (.seq (.seq (.region false [
 ⟨some 9, .mv (.tmp 0), none, [], []⟩,
 ⟨some 10, .mv (.tmp 1), none, [], []⟩,
 ⟨some 11, .load true 2 (.tmp 5), none, [], []⟩,
 ⟨some 12, .call true i_Xq58 [(.tmp 9), (.tmp 10), (.tmp 11)], none, [], []⟩,
 ⟨some 13, .un .not (.tmp 12), none, [], []⟩,
 ⟨some 14, .mv (.tmp 13), none, [], []⟩,
 ⟨some 15, .mv (.tmp 0), (some ((some 14), false)), [], []⟩,
 ⟨some 16, .mv (.tmp 8), (some ((some 14), false)), [], []⟩,
 ⟨some 17, .iaddrA 2 1 (.tmp 5) (.cst (.int .i64 0)), (some ((some 14), false)), [], []⟩,
 ⟨some 18, .load false 1 (.tmp 17), (some ((some 14), false)), [], []⟩,
 ⟨some 19, .callv true (.tmp 16) [(.tmp 18)], (some ((some 14), false)), [], []⟩,
 ⟨some 20, .call true i_Xq7 [(.tmp 15), (.tmp 19)], (some ((some 14), false)), [], []⟩,
 ⟨some 21, .un .not (.tmp 20), (some ((some 14), false)), [], []⟩,
 ⟨some 22, .pick (.tmp 14) (.cst (.bool true)) (.tmp 21), none, [], []⟩,
 ⟨some 23, .mv (.tmp 22), none, [], []⟩,
 ⟨some 24, .mv (.tmp 1), (some ((some 23), false)), [], []⟩,
 ⟨some 25, .mv (.tmp 8), (some ((some 23), false)), [], []⟩,
 ⟨some 26, .iaddrA 2 1 (.tmp 5) (.cst (.int .i64 1)), (some ((some 23), false)), [], []⟩,
 ⟨some 27, .load false 1 (.tmp 26), (some ((some 23), false)), [], []⟩,
 ⟨some 28, .callv true (.tmp 25) [(.tmp 27)], (some ((some 23), false)), [], []⟩,
 ⟨some 29, .call true i_Xq7 [(.tmp 24), (.tmp 28)], (some ((some 23), false)), [], []⟩,
 ⟨some 30, .un .not (.tmp 29), (some ((some 23), false)), [], []⟩,
 ⟨some 31, .pick (.tmp 23) (.cst (.bool true)) (.tmp 30), none, [], []⟩])
 (.ghost (.kill [8, 9, 10, 11, 12, 13, 14, 15, 16, 17, 18, 19, 20, 21, 22, 23, 24, 25, 26, 27, 28, 29, 30])))
 (.cond (.tmp 31) (.seq (.region false [
   ⟨some 6, .mv (.cst .nils), none, [], []⟩,
   ⟨some 7, .mv (.cst (.int .i64 1)), none, [], []⟩])
  .ret)
 .skip))
 (.seq (.region false [
 ⟨some 32, .mv (.tmp 0), none, [], []⟩,
 ⟨some 33, .mv (.tmp 1), none, [], []⟩,
 ⟨some 34, .load true 2 (.tmp 5), none, [], []⟩,
 ⟨some 35, .call false i_Xq46 [(.tmp 33), (.tmp 34)], none, [], []⟩,
 ⟨some 36, .call false i_Xq27 [(.tmp 32), (.tmp 35), (.cst (.int .i64 (-1)))], none, [], []⟩,
 ⟨some 37, .extr (.tmp 36) 0, none, [], []⟩,
 ⟨some 38, .extr (.tmp 36) 1, none, [], []⟩,
 ⟨some 6, .mv (.tmp 37), none, [], []⟩,
 ⟨some 7, .mv (.tmp 38), none, [], []⟩])
 .ret))))
def Xq42 : AFunc := ⟨39, [.tmp 6, .tmp 7], Xq42.main, false⟩
def Xq57.main : ACode := (.seq (.seq (.region false [
 ⟨some 5, .box 2 (.tmp 2), none, [], []⟩,
 ⟨some 6, .mv (.cst .nils), none, [], []⟩,
 ⟨some 7, .mv (.cst (.int .i64 0)), none, [], []⟩])
 (.ghost (.kill [2, 6, 7])))
 (.seq (.region false [
 ⟨some 8, .mv (.tmp 0), none, [], []⟩,
 ⟨some 9, .mv (.tmp 1), none, [], []⟩,
 ⟨some 10, .load true 2 (.tmp 5), none, [], []⟩,
 ⟨some 11, .call true i_Xq50 [(.tmp 8), (.tmp 9), (.tmp 10), (.cst (.bool true))], none, [], []⟩,
 ⟨some 12, .extr (.tmp 11) 0, none, [], []⟩,
 ⟨some 13, .extr (.tmp 11) 1, none, [], []⟩,
 ⟨some 6, .mv (.tmp 12), none, [], []⟩,
 ⟨some 7, .mv (.tmp 13), none, [], []⟩])
 .ret))
def Xq57 : AFunc := ⟨14, [.tmp 6, .tmp 7], Xq57.main, false⟩
def Xq54.main : ACode := (.seq (.seq (.region false [
 ⟨some 5, .box 2 (.tmp 2), none, [], []⟩,
 ⟨some 6, .mv (.cst .nils), none, [], []⟩,
 ⟨some 7, .mv (.cst (.int .i64 0)), none, [], []⟩])
 (.ghost (.kill [2, 6, 7])))
 (.seq (.region false [
 ⟨some 8, .mv (.tmp 0), none, [], []⟩,
 ⟨some 9, .mv (.tmp 1), none, [], []⟩,
 ⟨some 10, .load true 2 (.tmp 5), none, [], []⟩,
 ⟨some 11, .call true i_Xq50 [(.tmp 8), (.tmp 9), (.tmp 10), (.cst (.bool false))], none, [], []⟩,
 ⟨some 12, .extr (.tmp 11) 0, none, [], []⟩,
 ⟨some 13, .extr (.tmp 11) 1, none, [], []⟩,
 ⟨some 6, .mv (.tmp 12), none, [], []⟩,
 ⟨some 7, .mv (.tmp 13), none, [], []⟩])
 .ret))
def Xq54 : AFunc := ⟨14, [.tmp 6, .tmp 7], Xq54.main, false⟩
def Xq40.main : ACode := (.seq (.seq (.region false [
 ⟨some 6, .box 2 (.tmp 2), none, [], []⟩,
 ⟨some 8, .mv (.cst .nils), none, [], []⟩,
 ⟨some 9, .mv (.cst (.int .i64 0)), none, [], []⟩])
 (.ghost (.kill [2, 8, 9])))
 (.seq (.seq (.seq (.region false [
 ⟨some 10, .mv (.tmp 0), none, [], []⟩,
 ⟨some 11, .mv (.tmp 1), none, [], []⟩,
 ⟨some 12, .load true 2 (.tmp 6), none, [], []⟩,
 ⟨some 13, .call true i_Xq58 [(.tmp 10), (.tmp 11), (.tmp 12)], none, [], []⟩,
 ⟨some 14, .un .not (.tmp 13), none, [], []⟩,
 ⟨some 15, .mv (.tmp 14), none, [], []⟩,
 ⟨some 16, .mv (.tmp 3), (some ((some 15), false)), [], []⟩,
 ⟨some 17, .bin .lss (.tmp 16) (.cst (.int .i64 0)), (some ((some 15), false)), [], []⟩,
 ⟨some 18, .pick (.tmp 15) (.cst (.bool true)) (.tmp 17), none, [], []⟩,
 ⟨some 19, .mv (.tmp 18), none, [], []⟩,
 ⟨some 20, .mv (.tmp 3), (some ((some 19), false)), [], []⟩,
 ⟨some 21, .bin .gtr (.tmp 20) (.cst (.int .i64 32)), (some ((some 19), false)), [], []⟩,
 ⟨some 22, .pick (.tmp 19) (.cst (.bool true)) (.tmp 21), none, [], []⟩])
 (.ghost (.kill [10, 11, 12, 13, 14, 15, 16, 17, 18, 19, 20, 21])))
 (.cond (.tmp 22) (.seq (.region false [
   ⟨some 8, .mv (.cst .nils), none, [], []⟩,
   ⟨some 9, .mv (.cst (.int .i64 1)), none, [], []⟩])
  .ret)
 .skip))
 (.seq (.region false [
 ⟨some 23, .mv (.tmp 0), none, [], []⟩,
 ⟨some 24, .mv (.tmp 1), none, [], []⟩,
 ⟨some 25, .load true 2 (.tmp 6), none, [], []⟩,
 ⟨some 26, .call true i_Xq48 [(.tmp 24), (.tmp 25)], none, [], []⟩,
 ⟨some 27, .mv (.tmp 3), none, [], []⟩,
 ⟨some 28, .call true i_Xq27 [(.tmp 23), (.tmp 26), (.tmp 27)], none, [], []⟩,
 ⟨some 29, .extr (.tmp 28) 0, none, [], []⟩,
 ⟨some 30, .extr (.tmp 28) 1, none, [], []⟩,
 ⟨some 8, .mv (.tmp 29), none, [], []⟩,
 ⟨some 9, .mv (.tmp 30), none, [], []⟩])
 .ret)))
def Xq40 : AFunc := ⟨31, [.tmp 8, .tmp 9], Xq40.main, false⟩
def Xq70.main : ACode := (.seq (.seq (.region false [
 ⟨some 2, .box 3 (.tmp 0), none, [], []⟩,
 ⟨some 3, .box 3 (.tmp 1), none, [], []⟩,
 ⟨some 4, .mv (.cst (.int .i64 0)), none, [], []⟩])
 (.ghost (.kill [0, 1, 4])))
 (.seq (.seq (.seq (.region false [
 ⟨some 5, .faddr 0 (.tmp 2), none, [], []⟩,
 ⟨some 6, .load false 1 (.tmp 5), none, [], []⟩,
 ⟨some 7, .faddr 0 (.tmp 3), none, [], []⟩,
 ⟨some 8, .load false 1 (.tmp 7), none, [], []⟩,
 ⟨some 9, .bin .neq (.tmp 6) (.tmp 8), none, [], []⟩])
 (.ghost (.kill [5, 6, 7, 8])))
 (.cond (.tmp 9) (.seq (.region false [
   ⟨some 10, .faddr 0 (.tmp 2), none, [], []⟩,
   ⟨some 11, .load false 1 (.tmp 10), none, [], []⟩,
   ⟨some 12, .faddr 0 (.tmp 3), none, [], []⟩,
   ⟨some 13, .load false 1 (.tmp 12), none, [], []⟩,
   ⟨some 14, .call true i_Xq60 [(.tmp 11), (.tmp 13)], none, [], []⟩,
   ⟨some 4, .mv (.tmp 14), none, [], []⟩])
  .ret)
 .skip))
 (.seq (.seq (.seq (.region false [
 ⟨some 15, .faddr 1 (.tmp 2), none, [], []⟩,
 ⟨some 16, .load false 1 (.tmp 15), none, [], []⟩,
 ⟨some 17, .faddr 1 (.tmp 3), none, [], []⟩,
 ⟨some 18, .load false 1 (.tmp 17), none, [], []⟩,
 ⟨some 19, .bin .neq (.tmp 16) (.tmp 18), none, [], []⟩])
 (.ghost (.kill [9, 15, 16, 17, 18])))
 (.cond (.tmp 19) (.seq (.region false [
   ⟨some 20, .faddr 1 (.tmp 2), none, [], []⟩,
   ⟨some 21, .load false 1 (.tmp 20), none, [], []⟩,
   ⟨some 22, .faddr 1 (.tmp 3), none, [], []⟩,
   ⟨some 23, .load false 1 (.tmp 22), none, [], []⟩,
   ⟨some 24, .call true i_Xq60 [(.tmp 21), (.tmp 23)], none, [], []⟩,
   ⟨some 4, .mv (.tmp 24), none, [], []⟩])
  .ret)
 .skip))
 (.seq (.region false [
 ⟨some 25, .faddr 2 (.tmp 2), none, [], []⟩,
 ⟨some 26, .load false 1 (.tmp 25), none, [], []⟩,
 ⟨some 27, .faddr 2 (.tmp 3), none, [], []⟩,
 ⟨some 28, .load false 1 (.tmp 27), none, [], []⟩,
 ⟨some 29, .call true i_Xq34 [(.tmp 26), (.tmp 28)], none, [], []⟩,
 ⟨some 4, .mv (.tmp 29), none, [], []⟩])
 .ret))))
def Xq70 : AFunc := ⟨30, [.tmp 4], Xq70.main, false⟩
def Xq36.c0 : ACode := (.seq (.region false [
 ⟨some 31, .mv (.tmp 0), none, [], []⟩,
 ⟨some 32, .len .sl (.tmp 31), none, [], []⟩,
 ⟨some 33, .mv (.tmp 1), none, [], []⟩,
 ⟨some 34, .len .sl (.tmp 33), none, [], []⟩,
 ⟨some 35, .call true i_Xq60 [(.tmp 32), (.tmp 34)], none, [], []⟩,
 ⟨some 4, .mv (.tmp 35), none, [], []⟩])
 .ret)
def Xq36.b0 : ACode := (.seq (.seq (.seq (.region false [
 ⟨some 7, .mv (.tmp 5), none, [], []⟩,
 ⟨some 8, .mv (.tmp 0), none, [], []⟩,
 ⟨some 9, .len .sl (.tmp 8), none, [], []⟩,
 ⟨some 10, .bin .lss (.tmp 7) (.tmp 9), none, [], []⟩,
 ⟨some 11, .mv (.tmp 10), none, [], []⟩,
 ⟨some 12, .mv (.tmp 5), (some ((some 11), true)), [], []⟩,
 ⟨some 13, .mv (.tmp 1), (some ((some 11), true)), [], []⟩,
 ⟨some 14, .len .sl (.tmp 13), (some ((some 11), true)), [], []⟩,
 ⟨some 15, .bin .lss (.tmp 12) (.tmp 14), (some ((some 11), true)), [], []⟩,
 ⟨some 16, .pick (.tmp 11) (.tmp 15) (.cst (.bool false)), none, [], []⟩])
 (.ghost (.kill [7, 8, 9, 10, 11, 12, 13, 14, 15])))
 (.cond (.tmp 16) .skip
 (.exit 0)))
 (.seq (.seq (.block 1 (.seq (.seq (.region true [
 ⟨some 19, .mv (.tmp 0), none, [], [0]⟩,
 ⟨some 20, .mv (.tmp 5), none, [], [5]⟩,
 ⟨some 21, .iaddr 3 (.tmp 19) (.tmp 20), none, [0, 1], [19, 20]⟩,
 ⟨some 22, .load true 3 (.tmp 21), none, [2], [21]⟩,
 ⟨some 23, .mv (.tmp 1), none, [], [1]⟩,
 ⟨some 24, .mv (.tmp 5), none, [], [5]⟩,
 ⟨some 25, .iaddr 3 (.tmp 23) (.tmp 24), none, [4, 5], [23, 24]⟩,
 ⟨some 26, .load true 3 (.tmp 25), none, [6], [25]⟩,
 ⟨some 27, .call true i_Xq70 [(.tmp 22), (.tmp 26)], none, [3, 7], [22, 26]⟩,
 ⟨some 6, .mv (.tmp 27), none, [8, 8, 0, 1, 2, 3, 4, 5, 6, 7, 8], [27]⟩])
 (.ghost (.kill [16, 19, 20, 21, 22, 23, 24, 25, 26, 27])))
 (.seq (.seq (.region false [
 ⟨some 28, .mv (.tmp 6), none, [], []⟩,
 ⟨some 29, .bin .neq (.tmp 28) (.cst (.int .i64 0)), none, [], []⟩])
 (.ghost (.kill [28])))
 (.cond (.tmp 29) (.seq (.region false [
   ⟨some 30, .mv (.tmp 6), none, [], []⟩,
   ⟨some 4, .mv (.tmp 30), none, [], []⟩])
  .ret)
 .skip))))
 (.ghost (.kill [6, 29])))
 (.seq (.region false [
 ⟨some 17, .mv (.tmp 5), none, [], []⟩,
 ⟨some 18, .bin .add (.tmp 17) (.cst (.int .i64 1)), none, [], []⟩,
 ⟨some 5, .mv (.tmp 18), none, [], []⟩])
 (.ghost (.kill [17, 18])))))
def Xq36.main : ACode := (.seq (.seq (.region false [
 ⟨some 4, .mv (.cst (.int .i64 0)), none, [], []⟩])
 (.ghost (.kill [4])))
 (.seq (.seq (.region false [
 ⟨some 5, .mv (.cst (.int .i64 0)), none, [], []⟩])
 (.seq (.block 0 (.loop Xq36.b0))
 (.ghost (.kill [5, 16]))))
 Xq36.c0))
def Xq36.k0 : List Item := [.inBlock 0, .code (.ghost (.kill [5, 16])), .code Xq36.c0]
def Xq36 : AFunc := ⟨36, [.tmp 4], Xq36.main, false⟩
def Xq13.main : ACode := (.seq (.seq (.region false [
 ⟨some 2, .mv (.cst .nils), none, [], []⟩])
 (.ghost (.kill [2])))
 (.seq (.seq (.seq (.region false [
 ⟨some 3, .mv (.tmp 0), none, [], []⟩,
 ⟨some 4, .eqnil false .sl (.tmp 3), none, [], []⟩])
 (.ghost (.kill [3])))
 (.cond (.tmp 4) (.seq (.region false [
   ⟨some 2, .mv (.cst .nils), none, [], []⟩])
  .ret)
 .skip))
 (.seq (.region false [
 ⟨some 5, .bslice 1 0 [.nils] [], none, [], []⟩,
 ⟨some 6, .mv (.tmp 0), none, [], []⟩,
 ⟨some 7, .append 1 24 (.tmp 5) (.tmp 6), none, [], []⟩,
 ⟨some 2, .mv (.tmp 7), none, [], []⟩])
 .ret)))
def Xq13 : AFunc := ⟨8, [.tmp 2], Xq13.main, false⟩
def Xq3.main : ACode := (.seq (.region false [
 ⟨some 4, .mv (.tmp 0), none, [], []⟩,
 ⟨some 5, .mv (.tmp 0), none, [], []⟩,
 ⟨some 6, .len .sl (.tmp 5), none, [], []⟩,
 ⟨some 7, .mv (.tmp 1), none, [], []⟩,
 ⟨some 8, .call false i_Xq4 [(.tmp 4), (.tmp 6), (.tmp 7)], none, [], []⟩])
 (.ghost (.kill [0, 1, 4, 5, 6, 7, 8])))
def Xq3 : AFunc := ⟨9, [], Xq3.main, false⟩
def Xq38.main : ACode := (.seq (.seq (.region false [
 ⟨some 1, .box 1 (.tmp 0), none, [], []⟩,
 ⟨some 2, .mv (.cst .nilf), none, [], []⟩])
 (.ghost (.kill [0, 2])))
 (.seq (.region false [
 ⟨some 3, .mkfn (.func i_Xq25) [] [(.tmp 1)], none, [], []⟩,
 ⟨some 2, .mv (.tmp 3), none, [], []⟩])
 .ret))
def Xq38 : AFunc := ⟨4, [.tmp 2], Xq38.main, false⟩
def Xq64.main : ACode := (.seq (.region false [
 ⟨some 2, .alloc [(.int .i64 0), (.int .i64 0), (.str ⟨#[]⟩)], none, [], []⟩])
 (.seq (.seq (.seq (.region false [
 ⟨some 3, .mv (.tmp 0), none, [], []⟩])
 (.ghost (.kill [0])))
 (.cond (.tmp 3) (.seq (.region false [
   ⟨some 4, .build [(.int .i64 0), (.int .i64 0), (.str ⟨#[]⟩)] [(0, 1, (.cst (.int .i64 1))), (1, 1, (.cst (.int .i64 1)))], none, [], []⟩,
   ⟨none, .store 3 (.tmp 2) (.tmp 4), none, [], []⟩])
  .ret)
 .skip))
 (.seq (.region false [
 ⟨some 5, .build [(.int .i64 0), (.int .i64 0), (.str ⟨#[]⟩)] [(0, 1, (.cst (.int .i64 1)))], none, [], []⟩,
 ⟨none, .store 3 (.tmp 2) (.tmp 5), none, [], []⟩])
 .ret)))
def Xq64 : AFunc := ⟨6, [.cell 2 true 3], Xq64.main, false⟩
def Xq58.main : ACode := (.seq (.seq (.region false [
 ⟨some 5, .box 2 (.tmp 2), none, [], []⟩,
 ⟨some 6, .mv (.cst (.bool false)), none, [], []⟩])
 (.ghost (.kill [2, 6])))
 (.seq (.region false [
 ⟨some 7, .mv (.cst (.clo (.func i_Xq45) [] [])), none, [], []⟩])
 (.seq (.region false [
 ⟨some 8, .mv (.tmp 7), none, [], []⟩,
 ⟨some 9, .mv (.tmp 0), none, [], []⟩,
 ⟨some 10, .iaddrA 2 1 (.tmp 5) (.cst (.int .i64 0)), none, [], []⟩,
 ⟨some 11, .load false 1 (.tmp 10), none, [], []⟩,
 ⟨some 12, .callv true (.tmp 8) [(.tmp 9), (.tmp 11)], none, [], []⟩,
 ⟨some 13, .mv (.tmp 12), none, [], []⟩,
 ⟨some 14, .mv (.tmp 7), (some ((some 13), true)), [], []⟩,
 ⟨some 15, .mv (.tmp 1), (some ((some 13), true)), [], []⟩,
 ⟨some 16, .iaddrA 2 1 (.tmp 5) (.cst (.int .i64 1)), (some ((some 13), true)), [], []⟩,
 ⟨some 17, .load false 1 (.tmp 16), (some ((some 13), true)), [], []⟩,
 ⟨some 18, .callv true (.tmp 14) [(.tmp 15), (.tmp 17)], (some ((some 13), true)), [], []⟩,
 ⟨some 19, .pick (.tmp 13) (.tmp 18) (.cst (.bool false)), none, [], []⟩,
 ⟨some 6, .mv (.tmp 19), none, [], []⟩])
 .ret)))
def Xq58 : AFunc := ⟨20, [.tmp 6], Xq58.main, false⟩
def Xq27.c0 : ACode := (.seq (.seq (.seq (.region false [
 ⟨some 49, .load false 1 (.tmp 8), none, [], []⟩,
 ⟨none, .store 1 (.tmp 6) (.tmp 49), none, [], []⟩,
 ⟨none, .store 1 (.tmp 7) (.cst (.int .i64 0)), none, [], []⟩])
 (.ghost (.inner 6)))
 (.ghost (.kill [8, 49])))
 .ret)
def Xq27.c1 : ACode := (.ghost (.kill [1, 2, 13, 14, 15, 16]))
def Xq27.c2 : ACode := (.seq (.region false [
 ⟨some 48, .bin .add (.tmp 15) (.cst (.int .i64 1)), none, [], []⟩,
 ⟨some 15, .mv (.tmp 48), none, [], []⟩])
 (.ghost (.kill [48])))
def Xq27.c3 : ACode := (.seq (.seq (.region false [
 ⟨some 32, .load false 1 (.tmp 11), none, [], []⟩,
 ⟨some 33, .un .not (.tmp 32), none, [], []⟩,
 ⟨some 34, .mv (.tmp 33), none, [], []⟩,
 ⟨some 35, .mv (.tmp 2), (some ((some 34), true)), [], []⟩,
 ⟨some 36, .bin .geq (.tmp 35) (.cst (.int .i64 0)), (some ((some 34), true)), [], []⟩,
 ⟨some 37, .pick (.tmp 34) (.tmp 36) (.cst (.bool false)), none, [], []⟩])
 (.ghost (.kill [11, 32, 33, 34, 35, 36])))
 (.seq (.cond (.tmp 37) (.seq (.seq (.seq (.region false [
   ⟨some 38, .load false 1 (.tmp 8), none, [], []⟩,
   ⟨some 39, .len .sl (.tmp 38), none, [], []⟩,
   ⟨some 40, .bin .eql (.tmp 39) (.cst (.int .i64 4096)), none, [], []⟩])
  (.ghost (.kill [37, 38, 39])))
  (.cond (.tmp 40) (.seq (.region false [
    ⟨none, .store 1 (.tmp 6) (.cst .nils), none, [], []⟩,
    ⟨none, .store 1 (.tmp 7) (.cst (.int .i64 2)), none, [], []⟩])
   .ret)
  .skip))
  (.seq (.region true [
   ⟨some 41, .load false 1 (.tmp 8), none, [], [8]⟩,
   ⟨some 42, .load false 1 (.tmp 10), none, [], [10]⟩,
   ⟨some 43, .mv (.tmp 2), none, [], [2]⟩,
   ⟨some 44, .mkslF 3 32 [(.int .i64 0), (.int .i64 0), (.str ⟨#[]⟩)] (.tmp 43) (.tmp 43), none, [2, 2], [43, 43]⟩,
   ⟨some 45, .call true i_Xq53 [(.tmp 42), (.tmp 44)], none, [1, 3], [42, 44]⟩,
   ⟨some 46, .bslice 1 1 [.nils] [(0, (.tmp 45))], none, [4], [45]⟩,
   ⟨some 47, .append 1 24 (.tmp 41) (.tmp 46), none, [0, 5, 4], [41, 46]⟩,
   ⟨none, .store 1 (.tmp 8) (.tmp 47), none, [6, 6, 0, 1, 2, 3, 4, 5, 6], [8, 47]⟩])
  (.ghost (.kill [10, 40, 41, 42, 43, 44, 45, 46, 47]))))
 .skip)
 (.ghost (.kill [10, 37]))))
def Xq27.y0 : ACode := (.seq (.region false [
 ⟨some 12, .mv (.tmp 22), none, [], []⟩])
 (.trunc (.block 3 (.seq (.seq (.region false [
 ⟨none, .store 1 (.tmp 11) (.cst (.bool true)), none, [], []⟩])
 (.ghost (.kill [1, 2, 11, 13, 14, 15, 21, 22])))
 (.seq (.seq (.seq (.region false [
 ⟨some 23, .load false 1 (.tmp 8), none, [], []⟩,
 ⟨some 24, .len .sl (.tmp 23), none, [], []⟩,
 ⟨some 25, .bin .eql (.tmp 24) (.cst (.int .i64 4096)), none, [], []⟩])
 (.ghost (.kill [23, 24])))
 (.cond (.tmp 25) (.seq (.region false [
   ⟨none, .store 1 (.tmp 6) (.cst .nils), none, [], []⟩,
   ⟨none, .store 1 (.tmp 7) (.cst (.int .i64 2)), none, [], []⟩])
  .ret)
 .skip))
 (.seq (.region true [
 ⟨some 26, .load false 1 (.tmp 8), none, [], [8]⟩,
 ⟨some 27, .load false 1 (.tmp 10), none, [], [10]⟩,
 ⟨some 28, .mv (.tmp 12), none, [], [12]⟩,
 ⟨some 29, .call true i_Xq53 [(.tmp 27), (.tmp 28)], none, [1, 2], [27, 28]⟩,
 ⟨some 30, .bslice 1 1 [.nils] [(0, (.tmp 29))], none, [3], [29]⟩,
 ⟨some 31, .append 1 24 (.tmp 26) (.tmp 30), none, [0, 4, 3], [26, 30]⟩,
 ⟨none, .store 1 (.tmp 8) (.tmp 31), none, [5, 5, 0, 1, 2, 3, 4, 5], [8, 31]⟩])
 (.ghost (.kill [6, 7, 8, 10, 12, 25, 26, 27, 28, 29, 30, 31]))))))))
def Xq27.b0 : ACode := (.seq (.region false [
 ⟨some 16, .bin .lss (.tmp 15) (.tmp 14), none, [], []⟩])
 (.seq (.cond (.tmp 16) .skip
 (.exit 0))
 (.seq (.trunc (.block 1 (.seq (.seq (.region false [
 ⟨some 17, .iaddr 1 (.tmp 13) (.tmp 15), none, [], []⟩,
 ⟨some 18, .load false 1 (.tmp 17), none, [], []⟩,
 ⟨some 10, .alloc [.nils], none, [], []⟩,
 ⟨none, .store 1 (.tmp 10) (.tmp 18), none, [], []⟩])
 (.ghost (.kill [16, 17, 18])))
 (.seq (.region false [
 ⟨some 11, .alloc [(.bool false)], none, [], []⟩,
 ⟨none, .store 1 (.tmp 11) (.cst (.bool false)), none, [], []⟩])
 (.seq (.seq (.seq (.region false [
 ⟨some 19, .mv (.tmp 1), none, [], []⟩,
 ⟨some 20, .load false 1 (.tmp 10), none, [], []⟩,
 ⟨some 21, .callv false (.tmp 19) [(.tmp 20)], none, [], []⟩])
 (.ghost (.kill [19, 20])))
 (.block 2 (.seq (.rangeF (.tmp 21) [22] Xq27.y0)
 (.ghost (.kill [21])))))
 Xq27.c3)))))
 Xq27.c2)))
def Xq27.main : ACode := (.seq (.region false [
 ⟨some 6, .alloc [.nils], none, [], []⟩,
 ⟨some 7, .alloc [(.int .i64 0)], none, [], []⟩])
 (.seq (.region false [
 ⟨some 8, .allocn [.nils] 0 1, none, [], []⟩])
 (.seq (.seq (.seq (.region false [
 ⟨some 13, .mv (.tmp 0), none, [], []⟩,
 ⟨some 14, .len .sl (.tmp 13), none, [], []⟩,
 ⟨some 15, .mv (.cst (.int .i64 0)), none, [], []⟩])
 (.ghost (.kill [0])))
 (.seq (.block 0 (.loop Xq27.b0))
 Xq27.c1))
 Xq27.c0)))
def Xq27.k0 : List Item := [.inBlock 0, .code Xq27.c1, .code Xq27.c0]
def Xq27 : AFunc := ⟨50, [.cell 6 false 1, .cell 7 false 1], Xq27.main, false⟩
def Xq52.main : ACode := (.seq (.seq (.region false [
 ⟨some 2, .box 1 (.tmp 0), none, [], []⟩,
 ⟨some 3, .box 2 (.tmp 1), none, [], []⟩,
 ⟨some 4, .mv (.cst .nilf), none, [], []⟩])
 (.ghost (.kill [0, 1, 4])))
 (.seq (.region false [
 ⟨some 5, .mkfn (.func i_Xq37) [] [(.tmp 2), (.tmp 3)], none, [], []⟩,
 ⟨some 4, .mv (.tmp 5), none, [], []⟩])
 .ret))
def Xq52 : AFunc := ⟨6, [.tmp 4], Xq52.main, false⟩
def Xq48.c0 : ACode := (.seq (.region false [
 ⟨some 33, .mkfn (.func i_Xq30) [] [(.tmp 5), (.tmp 3)], none, [], []⟩,
 ⟨some 4, .mv (.tmp 33), none, [], []⟩])
 .ret)
def Xq48.c1 : ACode := (.ghost (.kill [10, 11, 12, 13]))
def Xq48.c2 : ACode := (.seq (.region false [
 ⟨some 32, .bin .add (.tmp 12) (.cst (.int .i64 1)), none, [], []⟩,
 ⟨some 12, .mv (.tmp 32), none, [], []⟩])
 (.ghost (.kill [32])))
def Xq48.b0 : ACode := (.seq (.region false [
 ⟨some 13, .bin .lss (.tmp 12) (.tmp 11), none, [], []⟩])
 (.seq (.cond (.tmp 13) .skip
 (.exit 0))
 (.seq (.block 1 (.seq (.seq (.region false [
 ⟨some 14, .iaddr 1 (.tmp 10) (.tmp 12), none, [], []⟩,
 ⟨some 15, .load false 1 (.tmp 14), none, [], []⟩,
 ⟨some 7, .mv (.tmp 15), none, [], []⟩])
 (.ghost (.kill [13, 14, 15])))
 (.seq (.seq (.region false [
 ⟨some 16, .mv (.tmp 7), none, [], []⟩,
 ⟨some 17, .iaddrA 2 1 (.tmp 3) (.cst (.int .i64 1)), none, [], []⟩,
 ⟨some 18, .load false 1 (.tmp 17), none, [], []⟩,
 ⟨some 19, .iaddr 3 (.tmp 16) (.tmp 18), none, [], []⟩,
 ⟨some 20, .load true 3 (.tmp 19), none, [], []⟩,
 ⟨some 8, .alloc [(.int .i64 0), (.int .i64 0), (.str ⟨#[]⟩)], none, [], []⟩,
 ⟨none, .store 3 (.tmp 8) (.tmp 20), none, [], []⟩])
 (.ghost (.kill [16, 17, 18, 19, 20])))
 (.seq (.seq (.region false [
 ⟨some 21, .faddr 0 (.tmp 8), none, [], []⟩,
 ⟨some 22, .load false 1 (.tmp 21), none, [], []⟩,
 ⟨some 23, .bin .neq (.tmp 22) (.cst (.int .i64 0)), none, [], []⟩])
 (.ghost (.kill [21, 22])))
 (.seq (.cond (.tmp 23) (.seq (.region false [
   ⟨some 24, .load false 1 (.tmp 5), none, [], []⟩,
   ⟨some 25, .load true 3 (.tmp 8), none, [], []⟩,
   ⟨some 27, .mv (.tmp 7), none, [], []⟩,
   ⟨some 28, .bslice 1 1 [.nils] [(0, (.tmp 27))], none, [], []⟩,
   ⟨some 29, .mapent (.row [(0, 1, false, (.int .i64)), (1, 1, false, (.int .i64)), (2, 1, false, .str)]) .nils (.tmp 24) (.tmp 25), none, [], []⟩,
   ⟨some 26, .extr (.tmp 29) 0, none, [], []⟩,
   ⟨some 30, .append 1 24 (.tmp 26) (.tmp 28), none, [], []⟩,
   ⟨some 31, .extr (.tmp 29) 1, none, [], []⟩,
   ⟨none, .entst (.tmp 24) (.tmp 31) (.tmp 30), none, [], []⟩])
  (.ghost (.kill [7, 8, 23, 24, 25, 26, 27, 28, 29, 30, 31])))
 .skip)
 (.ghost (.kill [7, 8, 23])))))))
 Xq48.c2)))
def Xq48.main : ACode := (.seq (.seq (.region false [
 ⟨some 3, .box 2 (.tmp 1), none, [], []⟩,
 ⟨some 4, .mv (.cst .nilf), none, [], []⟩])
 (.ghost (.kill [1, 4])))
 (.seq (.seq (.region false [
 ⟨some 9, .mkmap, none, [], []⟩,
 ⟨some 5, .alloc [.nilm], none, [], []⟩,
 ⟨none, .store 1 (.tmp 5) (.tmp 9), none, [], []⟩])
 (.ghost (.kill [9])))
 (.seq (.seq (.seq (.region false [
 ⟨some 10, .mv (.tmp 0), none, [], []⟩,
 ⟨some 11, .len .sl (.tmp 10), none, [], []⟩,
 ⟨some 12, .mv (.cst (.int .i64 0)), none, [], []⟩])
 (.ghost (.kill [0])))
 (.seq (.block 0 (.loop Xq48.b0))
 Xq48.c1))
 Xq48.c0)))
def Xq48.k0 : List Item := [.inBlock 0, .code Xq48.c1, .code Xq48.c0]
def Xq48 : AFunc := ⟨34, [.tmp 4], Xq48.main, false⟩
def Xq31.main : ACode := (.seq (.seq (.region false [
 ⟨some 1, .box 1 (.tmp 0), none, [], []⟩,
 ⟨some 2, .mv (.cst .nilf), none, [], []⟩])
 (.ghost (.kill [0, 2])))
 (.seq (.region false [
 ⟨some 3, .mkfn (.func i_Xq21) [] [(.tmp 1)], none, [], []⟩,
 ⟨some 2, .mv (.tmp 3), none, [], []⟩])
 .ret))
def Xq31 : AFunc := ⟨4, [.tmp 2], Xq31.main, false⟩
def Xq21.main : ACode := (.seq (.seq (.region false [
 ⟨some 5, .mv (.cst (.int .i64 0)), none, [], []⟩])
 (.ghost (.kill [5])))
 (.seq (.region true [
 ⟨some 6, .mv (.tmp 0), none, [], [0]⟩,
 ⟨some 7, .load false 1 (.tmp 2), none, [], [2]⟩,
 ⟨some 8, .iaddr 3 (.tmp 6) (.tmp 7), none, [0, 1], [6, 7]⟩,
 ⟨some 9, .load true 3 (.tmp 8), none, [2], [8]⟩,
 ⟨some 10, .mv (.tmp 1), none, [], [1]⟩,
 ⟨some 11, .load false 1 (.tmp 2), none, [], [2]⟩,
 ⟨some 12, .iaddr 3 (.tmp 10) (.tmp 11), none, [4, 5], [10, 11]⟩,
 ⟨some 13, .load true 3 (.tmp 12), none, [6], [12]⟩,
 ⟨some 14, .call true i_Xq51 [(.tmp 9), (.tmp 13)], none, [3, 7], [9, 13]⟩,
 ⟨some 5, .mv (.tmp 14), none, [8, 8, 0, 1, 2, 3, 4, 5, 6, 7, 8], [14]⟩])
 .ret))
def Xq21 : AFunc := ⟨15, [.tmp 5], Xq21.main, false⟩
def Xq51.main : ACode := (.seq (.seq (.region false [
 ⟨some 2, .box 3 (.tmp 0), none, [], []⟩,
 ⟨some 3, .box 3 (.tmp 1), none, [], []⟩,
 ⟨some 4, .mv (.cst (.int .i64 0)), none, [], []⟩])
 (.ghost (.kill [0, 1, 4])))
 (.seq (.region true [
 ⟨some 5, .faddr 0 (.tmp 2), none, [], [2]⟩,
 ⟨some 6, .load false 1 (.tmp 5), none, [0], [5]⟩,
 ⟨some 7, .faddr 0 (.tmp 3), none, [], [3]⟩,
 ⟨some 8, .load false 1 (.tmp 7), none, [2], [7]⟩,
 ⟨some 9, .call true i_Xq19 [(.tmp 6), (.tmp 8)], none, [1, 3], [6, 8]⟩,
 ⟨some 10, .faddr 1 (.tmp 2), none, [], [2]⟩,
 ⟨some 11, .load false 1 (.tmp 10), none, [5], [10]⟩,
 ⟨some 12, .faddr 1 (.tmp 3), none, [], [3]⟩,
 ⟨some 13, .load false 1 (.tmp 12), none, [7], [12]⟩,
 ⟨some 14, .call true i_Xq19 [(.tmp 11), (.tmp 13)], none, [6, 8, 4], [11, 13]⟩,
 ⟨some 15, .faddr 2 (.tmp 2), none, [], [2]⟩,
 ⟨some 16, .load false 1 (.tmp 15), none, [10], [15]⟩,
 ⟨some 17, .faddr 2 (.tmp 3), none, [], [3]⟩,
 ⟨some 18, .load false 1 (.tmp 17), none, [12], [17]⟩,
 ⟨some 19, .call true i_Xq14 [(.tmp 16), (.tmp 18)], none, [11, 13, 9], [16, 18]⟩,
 ⟨some 20, .flist 1 3 [(.int .i64 0)] [(0, (.tmp 9)), (1, (.tmp 14)), (2, (.tmp 19))], none, [4, 9, 14], [9, 14, 19]⟩,
 ⟨some 21, .call true i_Xq20 [(.tmp 20)], none, [15, 14], [20]⟩,
 ⟨some 4, .mv (.tmp 21), none, [16, 16, 0, 1, 2, 3, 4, 5, 6, 7, 8, 9, 10, 11, 12, 13, 14, 15, 16], [21]⟩])
 .ret))
def Xq51 : AFunc := ⟨22, [.tmp 4], Xq51.main, false⟩
def Xq7.c0 : ACode := (.seq (.region false [
 ⟨some 4, .mv (.cst (.bool true)), none, [], []⟩])
 .ret)
def Xq7.c1 : ACode := (.ghost (.kill [0, 1, 5, 10]))
def Xq7.b0 : ACode := (.seq (.seq (.seq (.region false [
 ⟨some 9, .mv (.tmp 5), none, [], []⟩,
 ⟨some 10, .bin .gtr (.tmp 9) (.cst (.int .i64 0)), none, [], []⟩])
 (.ghost (.kill [9])))
 (.cond (.tmp 10) .skip
 (.exit 0)))
 (.seq (.seq (.block 1 (.seq (.seq (.region true [
 ⟨some 13, .mv (.tmp 1), none, [], [1]⟩,
 ⟨some 14, .mv (.tmp 0), none, [], [0]⟩,
 ⟨some 15, .mv (.tmp 5), none, [], [5]⟩,
 ⟨some 16, .iaddr 1 (.tmp 14) (.tmp 15), none, [1, 2], [14, 15]⟩,
 ⟨some 17, .load false 1 (.tmp 16), none, [3], [16]⟩,
 ⟨some 18, .mv (.tmp 0), none, [], [0]⟩,
 ⟨some 19, .mv (.tmp 5), none, [], [5]⟩,
 ⟨some 20, .bin .sub (.tmp 19) (.cst (.int .i64 1)), none, [6], [19]⟩,
 ⟨some 21, .iaddr 1 (.tmp 18) (.tmp 20), none, [5, 7], [18, 20]⟩,
 ⟨some 22, .load false 1 (.tmp 21), none, [8], [21]⟩,
 ⟨some 23, .callv true (.tmp 13) [(.tmp 17), (.tmp 22)], none, [0, 4, 9], [13, 17, 22]⟩,
 ⟨some 24, .bin .lss (.tmp 23) (.cst (.int .i64 0)), none, [10], [23]⟩])
 (.ghost (.kill [10, 13, 14, 15, 16, 17, 18, 19, 20, 21, 22, 23])))
 (.cond (.tmp 24) (.seq (.region false [
   ⟨some 4, .mv (.cst (.bool false)), none, [], []⟩])
  .ret)
 .skip)))
 (.ghost (.kill [24])))
 (.seq (.region false [
 ⟨some 11, .mv (.tmp 5), none, [], []⟩,
 ⟨some 12, .bin .sub (.tmp 11) (.cst (.int .i64 1)), none, [], []⟩,
 ⟨some 5, .mv (.tmp 12), none, [], []⟩])
 (.ghost (.kill [11, 12])))))
def Xq7.main : ACode := (.seq (.seq (.region false [
 ⟨some 4, .mv (.cst (.bool false)), none, [], []⟩])
 (.ghost (.kill [4])))
 (.seq (.seq (.seq (.region false [
 ⟨some 6, .mv (.tmp 0), none, [], []⟩,
 ⟨some 7, .len .sl (.tmp 6), none, [], []⟩,
 ⟨some 8, .bin .sub (.tmp 7) (.cst (.int .i64 1)), none, [], []⟩,
 ⟨some 5, .mv (.tmp 8), none, [], []⟩])
 (.ghost (.kill [6, 7, 8])))
 (.seq (.block 0 (.loop Xq7.b0))
 Xq7.c1))
 Xq7.c0))
def Xq7.k0 : List Item := [.inBlock 0, .code Xq7.c1, .code Xq7.c0]
def Xq7 : AFunc := ⟨25, [.tmp 4], Xq7.main, false⟩
def Xq46.main : ACode := (.seq (.seq (.region false [
 ⟨some 2, .box 1 (.tmp 0), none, [], []⟩,
 ⟨some 3, .box 2 (.tmp 1), none, [], []⟩,
 ⟨some 4, .mv (.cst .nilf), none, [], []⟩])
 (.ghost (.kill [0, 1, 4])))
 (.seq (.region false [
 ⟨some 5, .alloc [(.int .i64 0)], none, [], []⟩,
 ⟨none, .store 1 (.tmp 5) (.cst (.int .i64 0)), none, [], []⟩])
 (.seq (.region false [
 ⟨some 6, .mkfn (.func i_Xq28) [] [(.tmp 3), (.tmp 5), (.tmp 2)], none, [], []⟩,
 ⟨some 4, .mv (.tmp 6), none, [], []⟩])
 .ret)))
def Xq46 : AFunc := ⟨7, [.tmp 4], Xq46.main, false⟩
def Xq50.c0 : ACode := (.seq (.region false [
 ⟨some 41, .mv (.tmp 11), none, [], []⟩,
 ⟨some 8, .mv (.tmp 41), none, [], []⟩,
 ⟨some 9, .mv (.cst (.int .i64 0)), none, [], []⟩])
 .ret)
def Xq50.c1 : ACode := (.ghost (.kill [3, 10, 23, 24, 25, 26]))
def Xq50.c2 : ACode := (.seq (.region false [
 ⟨some 40, .bin .add (.tmp 25) (.cst (.int .i64 1)), none, [], []⟩,
 ⟨some 25, .mv (.tmp 40), none, [], []⟩])
 (.ghost (.kill [40])))
def Xq50.c3 : ACode := (.seq (.seq (.region false [
 ⟨some 33, .load false 1 (.tmp 14), none, [], []⟩,
 ⟨some 34, .mv (.tmp 3), none, [], []⟩,
 ⟨some 35, .eqs false .bool (.tmp 33) (.tmp 34), none, [], []⟩])
 (.ghost (.kill [14, 33, 34])))
 (.seq (.cond (.tmp 35) (.seq (.region false [
   ⟨some 36, .mv (.tmp 11), none, [], []⟩,
   ⟨some 37, .mv (.tmp 13), none, [], []⟩,
   ⟨some 38, .bslice 1 1 [.nils] [(0, (.tmp 37))], none, [], []⟩,
   ⟨some 39, .append 1 24 (.tmp 36) (.tmp 38), none, [], []⟩,
   ⟨some 11, .mv (.tmp 39), none, [], []⟩])
  (.ghost (.kill [13, 35, 36, 37, 38, 39])))
 .skip)
 (.ghost (.kill [13, 35]))))
def Xq50.y0 : ACode := (.seq (.region false [])
 (.block 3 (.seq (.seq (.region false [
 ⟨none, .store 1 (.tmp 14) (.cst (.bool true)), none, [], []⟩])
 (.ghost (.kill [3, 10, 11, 13, 14, 23, 24, 25, 31, 32])))
 (.exit 2))))
def Xq50.b0 : ACode := (.seq (.region false [
 ⟨some 26, .bin .lss (.tmp 25) (.tmp 24), none, [], []⟩])
 (.seq (.cond (.tmp 26) .skip
 (.exit 0))
 (.seq (.trunc (.block 1 (.seq (.seq (.region false [
 ⟨some 27, .iaddr 1 (.tmp 23) (.tmp 25), none, [], []⟩,
 ⟨some 28, .load false 1 (.tmp 27), none, [], []⟩,
 ⟨some 13, .mv (.tmp 28), none, [], []⟩])
 (.ghost (.kill [26, 27, 28])))
 (.seq (.region false [
 ⟨some 14, .alloc [(.bool false)], none, [], []⟩,
 ⟨none, .store 1 (.tmp 14) (.cst (.bool false)), none, [], []⟩])
 (.seq (.seq (.seq (.region false [
 ⟨some 29, .mv (.tmp 10), none, [], []⟩,
 ⟨some 30, .mv (.tmp 13), none, [], []⟩,
 ⟨some 31, .callv false (.tmp 29) [(.tmp 30)], none, [], []⟩])
 (.ghost (.kill [29, 30])))
 (.seq (.block 2 (.seq (.rangeF (.tmp 31) [32] Xq50.y0)
 (.ghost (.kill [31]))))
 (.ghost (.kill [31]))))
 Xq50.c3)))))
 Xq50.c2)))
def Xq50.main : ACode := (.seq (.seq (.region false [
 ⟨some 6, .box 2 (.tmp 2), none, [], []⟩,
 ⟨some 8, .mv (.cst .nils), none, [], []⟩,
 ⟨some 9, .mv (.cst (.int .i64 0)), none, [], []⟩])
 (.ghost (.kill [2, 8, 9])))
 (.seq (.seq (.seq (.region false [
 ⟨some 15, .mv (.tmp 0), none, [], []⟩,
 ⟨some 16, .mv (.tmp 1), none, [], []⟩,
 ⟨some 17, .load true 2 (.tmp 6), none, [], []⟩,
 ⟨some 18, .call true i_Xq58 [(.tmp 15), (.tmp 16), (.tmp 17)], none, [], []⟩,
 ⟨some 19, .un .not (.tmp 18), none, [], []⟩])
 (.ghost (.kill [15, 16, 17, 18])))
 (.cond (.tmp 19) (.seq (.region false [
   ⟨some 8, .mv (.cst .nils), none, [], []⟩,
   ⟨some 9, .mv (.cst (.int .i64 1)), none, [], []⟩])
  .ret)
 .skip))
 (.seq (.seq (.region false [
 ⟨some 20, .mv (.tmp 1), none, [], []⟩,
 ⟨some 21, .load true 2 (.tmp 6), none, [], []⟩,
 ⟨some 22, .call true i_Xq48 [(.tmp 20), (.tmp 21)], none, [], []⟩,
 ⟨some 10, .mv (.tmp 22), none, [], []⟩])
 (.ghost (.kill [1, 6, 19, 20, 21, 22])))
 (.seq (.seq (.region false [
 ⟨some 11, .mv (.cst .nils), none, [], []⟩])
 (.ghost (.nilref 11 1)))
 (.seq (.seq (.seq (.region false [
 ⟨some 23, .mv (.tmp 0), none, [], []⟩,
 ⟨some 24, .len .sl (.tmp 23), none, [], []⟩,
 ⟨some 25, .mv (.cst (.int .i64 0)), none, [], []⟩])
 (.ghost (.kill [0])))
 (.seq (.block 0 (.loop Xq50.b0))
 Xq50.c1))
 Xq50.c0)))))
def Xq50.k0 : List Item := [.inBlock 0, .code Xq50.c1, .code Xq50.c0]
def Xq50 : AFunc := ⟨42, [.tmp 8, .tmp 9], Xq50.main, false⟩
def Xq60.main : ACode := (.seq (.seq (.region false [
 ⟨some 4, .mv (.cst (.int .i64 0)), none, [], []⟩])
 (.ghost (.kill [4])))
 (.seq (.seq (.seq (.region false [
 ⟨some 5, .mv (.tmp 0), none, [], []⟩,
 ⟨some 6, .mv (.tmp 1), none, [], []⟩,
 ⟨some 7, .bin .lss (.tmp 5) (.tmp 6), none, [], []⟩])
 (.ghost (.kill [5, 6])))
 (.cond (.tmp 7) (.seq (.region false [
   ⟨some 4, .mv (.cst (.int .i64 (-1))), none, [], []⟩])
  .ret)
 .skip))
 (.seq (.seq (.seq (.region false [
 ⟨some 8, .mv (.tmp 0), none, [], []⟩,
 ⟨some 9, .mv (.tmp 1), none, [], []⟩,
 ⟨some 10, .bin .gtr (.tmp 8) (.tmp 9), none, [], []⟩])
 (.ghost (.kill [0, 1, 7, 8, 9])))
 (.cond (.tmp 10) (.seq (.region false [
   ⟨some 4, .mv (.cst (.int .i64 1)), none, [], []⟩])
  .ret)
 .skip))
 (.seq (.region false [
 ⟨some 4, .mv (.cst (.int .i64 0)), none, [], []⟩])
 .ret))))
def Xq60 : AFunc := ⟨11, [.tmp 4], Xq60.main, false⟩
def Xq34.c0 : ACode := (.seq (.region false [
 ⟨some 34, .mv (.tmp 0), none, [], []⟩,
 ⟨some 35, .len .str (.tmp 34), none, [], []⟩,
 ⟨some 36, .mv (.tmp 1), none, [], []⟩,
 ⟨some 37, .len .str (.tmp 36), none, [], []⟩,
 ⟨some 38, .call true i_Xq60 [(.tmp 35), (.tmp 37)], none, [], []⟩,
 ⟨some 4, .mv (.tmp 38), none, [], []⟩])
 .ret)
def Xq34.b0 : ACode := (.seq (.seq (.seq (.region false [
 ⟨some 6, .mv (.tmp 5), none, [], []⟩,
 ⟨some 7, .mv (.tmp 0), none, [], []⟩,
 ⟨some 8, .len .str (.tmp 7), none, [], []⟩,
 ⟨some 9, .bin .lss (.tmp 6) (.tmp 8), none, [], []⟩,
 ⟨some 10, .mv (.tmp 9), none, [], []⟩,
 ⟨some 11, .mv (.tmp 5), (some ((some 10), true)), [], []⟩,
 ⟨some 12, .mv (.tmp 1), (some ((some 10), true)), [], []⟩,
 ⟨some 13, .len .str (.tmp 12), (some ((some 10), true)), [], []⟩,
 ⟨some 14, .bin .lss (.tmp 11) (.tmp 13), (some ((some 10), true)), [], []⟩,
 ⟨some 15, .pick (.tmp 10) (.tmp 14) (.cst (.bool false)), none, [], []⟩])
 (.ghost (.kill [6, 7, 8, 9, 10, 11, 12, 13, 14])))
 (.cond (.tmp 15) .skip
 (.exit 0)))
 (.seq (.seq (.block 1 (.seq (.seq (.region true [
 ⟨some 18, .mv (.tmp 0), none, [], [0]⟩,
 ⟨some 19, .mv (.tmp 5), none, [], [5]⟩,
 ⟨some 20, .idxS (.tmp 18) (.tmp 19), none, [0, 1], [18, 19]⟩,
 ⟨some 21, .mv (.tmp 1), none, [], [1]⟩,
 ⟨some 22, .mv (.tmp 5), none, [], [5]⟩,
 ⟨some 23, .idxS (.tmp 21) (.tmp 22), none, [3, 4], [21, 22]⟩,
 ⟨some 24, .bin .neq (.tmp 20) (.tmp 23), none, [2, 5], [20, 23]⟩])
 (.ghost (.kill [15, 18, 19, 20, 21, 22, 23])))
 (.cond (.tmp 24) (.seq (.region true [
   ⟨some 25, .mv (.tmp 0), none, [], [0]⟩,
   ⟨some 26, .mv (.tmp 5), none, [], [5]⟩,
   ⟨some 27, .idxS (.tmp 25) (.tmp 26), none, [0, 1], [25, 26]⟩,
   ⟨some 28, .conv .i64 (.tmp 27), none, [2], [27]⟩,
   ⟨some 29, .mv (.tmp 1), none, [], [1]⟩,
   ⟨some 30, .mv (.tmp 5), none, [], [5]⟩,
   ⟨some 31, .idxS (.tmp 29) (.tmp 30), none, [4, 5], [29, 30]⟩,
   ⟨some 32, .conv .i64 (.tmp 31), none, [6], [31]⟩,
   ⟨some 33, .call true i_Xq60 [(.tmp 28), (.tmp 32)], none, [3, 7], [28, 32]⟩,
   ⟨some 4, .mv (.tmp 33), none, [8, 8, 0, 1, 2, 3, 4, 5, 6, 7, 8], [33]⟩])
  .ret)
 .skip)))
 (.ghost (.kill [24])))
 (.seq (.region false [
 ⟨some 16, .mv (.tmp 5), none, [], []⟩,
 ⟨some 17, .bin .add (.tmp 16) (.cst (.int .i64 1)), none, [], []⟩,
 ⟨some 5, .mv (.tmp 17), none, [], []⟩])
 (.ghost (.kill [16, 17])))))
def Xq34.main : ACode := (.seq (.seq (.region false [
 ⟨some 4, .mv (.cst (.int .i64 0)), none, [], []⟩])
 (.ghost (.kill [4])))
 (.seq (.seq (.region false [
 ⟨some 5, .mv (.cst (.int .i64 0)), none, [], []⟩])
 (.seq (.block 0 (.loop Xq34.b0))
 (.ghost (.kill [5, 15]))))
 Xq34.c0))
def Xq34.k0 : List Item := [.inBlock 0, .code (.ghost (.kill [5, 15])), .code Xq34.c0]
def Xq34 : AFunc := ⟨39, [.tmp 4], Xq34.main, false⟩
def Xq4.c0 : ACode := (.ghost (.kill [0, 1, 2, 6, 30]))
def Xq4.c1 : ACode := (.seq (.region false [
 ⟨some 61, .mv (.tmp 6), none, [], []⟩,
 ⟨some 62, .bin .mul (.tmp 61) (.cst (.int .i64 2)), none, [], []⟩,
 ⟨some 6, .mv (.tmp 62), none, [], []⟩])
 (.ghost (.kill [61, 62])))
def Xq4.c2 : ACode := (.seq (.seq (.seq (.region false [
 ⟨some 49, .mv (.tmp 7), none, [], []⟩,
 ⟨some 50, .mv (.tmp 6), none, [], []⟩,
 ⟨some 51, .bin .add (.tmp 49) (.tmp 50), none, [], []⟩,
 ⟨some 9, .mv (.tmp 51), none, [], []⟩])
 (.ghost (.kill [49, 50, 51])))
 (.seq (.seq (.region false [
 ⟨some 52, .mv (.tmp 9), none, [], []⟩,
 ⟨some 53, .mv (.tmp 1), none, [], []⟩,
 ⟨some 54, .bin .lss (.tmp 52) (.tmp 53), none, [], []⟩])
 (.ghost (.kill [52, 53])))
 (.seq (.cond (.tmp 54) (.seq (.region false [
   ⟨some 55, .mv (.tmp 0), none, [], []⟩,
   ⟨some 56, .mv (.tmp 7), none, [], []⟩,
   ⟨some 57, .mv (.tmp 9), none, [], []⟩,
   ⟨some 58, .mv (.tmp 1), none, [], []⟩,
   ⟨some 59, .mv (.tmp 2), none, [], []⟩,
   ⟨some 60, .call false i_Xq2 [(.tmp 55), (.tmp 56), (.tmp 57), (.tmp 58), (.tmp 59)], none, [], []⟩])
  (.ghost (.kill [7, 9, 54, 55, 56, 57, 58, 59, 60])))
 .skip)
 (.ghost (.kill [7, 9, 54])))))
 Xq4.c1)
def Xq4.b2 : ACode := (.seq (.seq (.seq (.region false [
 ⟨some 33, .mv (.tmp 8), none, [], []⟩,
 ⟨some 34, .mv (.tmp 1), none, [], []⟩,
 ⟨some 35, .bin .leq (.tmp 33) (.tmp 34), none, [], []⟩])
 (.ghost (.kill [33, 34])))
 (.cond (.tmp 35) .skip
 (.exit 4)))
 (.trunc (.block 5 (.seq (.seq (.region false [
 ⟨some 36, .mv (.tmp 0), none, [], []⟩,
 ⟨some 37, .mv (.tmp 7), none, [], []⟩,
 ⟨some 38, .mv (.tmp 7), none, [], []⟩,
 ⟨some 39, .mv (.tmp 6), none, [], []⟩,
 ⟨some 40, .bin .add (.tmp 38) (.tmp 39), none, [], []⟩,
 ⟨some 41, .mv (.tmp 8), none, [], []⟩,
 ⟨some 42, .mv (.tmp 2), none, [], []⟩,
 ⟨some 43, .call false i_Xq2 [(.tmp 36), (.tmp 37), (.tmp 40), (.tmp 41), (.tmp 42)], none, [], []⟩])
 (.ghost (.kill [7, 35, 36, 37, 38, 39, 40, 41, 42, 43])))
 (.seq (.seq (.region false [
 ⟨some 44, .mv (.tmp 8), none, [], []⟩,
 ⟨some 7, .mv (.tmp 44), none, [], []⟩])
 (.ghost (.kill [44])))
 (.seq (.region false [
 ⟨some 45, .mv (.tmp 8), none, [], []⟩,
 ⟨some 46, .mv (.tmp 6), none, [], []⟩,
 ⟨some 47, .bin .mul (.cst (.int .i64 2)) (.tmp 46), none, [], []⟩,
 ⟨some 48, .bin .add (.tmp 45) (.tmp 47), none, [], []⟩,
 ⟨some 8, .mv (.tmp 48), none, [], []⟩])
 (.ghost (.kill [45, 46, 47, 48]))))))))
def Xq4.b1 : ACode := (.seq (.seq (.seq (.region false [
 ⟨some 28, .mv (.tmp 6), none, [], []⟩,
 ⟨some 29, .mv (.tmp 1), none, [], []⟩,
 ⟨some 30, .bin .lss (.tmp 28) (.tmp 29), none, [], []⟩])
 (.ghost (.kill [28, 29])))
 (.cond (.tmp 30) .skip
 (.exit 2)))
 (.trunc (.block 3 (.seq (.seq (.region false [
 ⟨some 31, .mv (.tmp 6), none, [], []⟩,
 ⟨some 32, .bin .mul (.cst (.int .i64 2)) (.tmp 31), none, [], []⟩,
 ⟨some 7, .mv (.cst (.int .i64 0)), none, [], []⟩,
 ⟨some 8, .mv (.tmp 32), none, [], []⟩])
 (.ghost (.kill [30, 31, 32])))
 (.seq (.seq (.block 4 (.loop Xq4.b2))
 (.ghost (.kill [8, 35])))
 Xq4.c2)))))
def Xq4.c3 : ACode := (.seq (.seq (.region false [
 ⟨some 23, .mv (.tmp 0), none, [], []⟩,
 ⟨some 24, .mv (.tmp 7), none, [], []⟩,
 ⟨some 25, .mv (.tmp 1), none, [], []⟩,
 ⟨some 26, .mv (.tmp 2), none, [], []⟩,
 ⟨some 27, .call false i_Xq0 [(.tmp 23), (.tmp 24), (.tmp 25), (.tmp 26)], none, [], []⟩])
 (.ghost (.kill [7, 23, 24, 25, 26, 27])))
 (.seq (.block 2 (.loop Xq4.b1))
 Xq4.c0))
def Xq4.b0 : ACode := (.seq (.seq (.seq (.region false [
 ⟨some 11, .mv (.tmp 8), none, [], []⟩,
 ⟨some 12, .mv (.tmp 1), none, [], []⟩,
 ⟨some 13, .bin .leq (.tmp 11) (.tmp 12), none, [], []⟩])
 (.ghost (.kill [11, 12])))
 (.cond (.tmp 13) .skip
 (.exit 0)))
 (.trunc (.block 1 (.seq (.seq (.region false [
 ⟨some 14, .mv (.tmp 0), none, [], []⟩,
 ⟨some 15, .mv (.tmp 7), none, [], []⟩,
 ⟨some 16, .mv (.tmp 8), none, [], []⟩,
 ⟨some 17, .mv (.tmp 2), none, [], []⟩,
 ⟨some 18, .call false i_Xq0 [(.tmp 14), (.tmp 15), (.tmp 16), (.tmp 17)], none, [], []⟩])
 (.ghost (.kill [7, 13, 14, 15, 16, 17, 18])))
 (.seq (.seq (.region false [
 ⟨some 19, .mv (.tmp 8), none, [], []⟩,
 ⟨some 7, .mv (.tmp 19), none, [], []⟩])
 (.ghost (.kill [19])))
 (.seq (.region false [
 ⟨some 20, .mv (.tmp 8), none, [], []⟩,
 ⟨some 21, .mv (.tmp 6), none, [], []⟩,
 ⟨some 22, .bin .add (.tmp 20) (.tmp 21), none, [], []⟩,
 ⟨some 8, .mv (.tmp 22), none, [], []⟩])
 (.ghost (.kill [20, 21, 22]))))))))
def Xq4.main : ACode := (.seq (.region false [
 ⟨some 6, .mv (.cst (.int .i64 20)), none, [], []⟩])
 (.seq (.seq (.region false [
 ⟨some 10, .mv (.tmp 6), none, [], []⟩,
 ⟨some 7, .mv (.cst (.int .i64 0)), none, [], []⟩,
 ⟨some 8, .mv (.tmp 10), none, [], []⟩])
 (.ghost (.kill [10])))
 (.seq (.seq (.block 0 (.loop Xq4.b0))
 (.ghost (.kill [8, 13])))
 Xq4.c3)))
def Xq4.k2 (m0 : Nat) : List Item := [.inBlock 4, .code (.ghost (.kill [8, 35])), .code Xq4.c2, .inBlock 3, .inTrunc m0, .inLoop Xq4.b1, .inBlock 2, .code Xq4.c0]
def Xq4.k1 : List Item := [.inBlock 2, .code Xq4.c0]
def Xq4.k0 : List Item := [.inBlock 0, .code (.ghost (.kill [8, 13])), .code Xq4.c3]
def Xq4 : AFunc := ⟨63, [], Xq4.main, false⟩
def Xq25.main : ACode := (.seq (.seq (.region false [
 ⟨some 5, .mv (.cst (.int .i64 0)), none, [], []⟩])
 (.ghost (.kill [5])))
 (.seq (.region true [
 ⟨some 6, .mv (.tmp 0), none, [], [0]⟩,
 ⟨some 7, .load false 1 (.tmp 2), none, [], [2]⟩,
 ⟨some 8, .call true i_Xq17 [(.tmp 6), (.tmp 7)], none, [0, 1], [6, 7]⟩,
 ⟨some 9, .mv (.tmp 1), none, [], [1]⟩,
 ⟨some 10, .load false 1 (.tmp 2), none, [], [2]⟩,
 ⟨some 11, .call true i_Xq17 [(.tmp 9), (.tmp 10)], none, [3, 4, 2], [9, 10]⟩,
 ⟨some 12, .call true i_Xq23 [(.tmp 8), (.tmp 11)], none, [2, 5, 5], [8, 11]⟩,
 ⟨some 13, .mv (.tmp 0), none, [], [0]⟩,
 ⟨some 14, .mv (.tmp 1), none, [], [1]⟩,
 ⟨some 15, .call true i_Xq23 [(.tmp 13), (.tmp 14)], none, [7, 8, 6], [13, 14]⟩,
 ⟨some 16, .flist 1 2 [(.int .i64 0)] [(0, (.tmp 12)), (1, (.tmp 15))], none, [6, 9], [12, 15]⟩,
 ⟨some 17, .call true i_Xq41 [(.tmp 16)], none, [10, 9], [16]⟩,
 ⟨some 5, .mv (.tmp 17), none, [11, 11, 0, 1, 2, 3, 4, 5, 6, 7, 8, 9, 10, 11], [17]⟩])
 .ret))
def Xq25 : AFunc := ⟨18, [.tmp 5], Xq25.main, false⟩
def Xq41.c0 : ACode := (.seq (.region false [
 ⟨some 17, .mv (.tmp 3), none, [], []⟩,
 ⟨some 2, .mv (.tmp 17), none, [], []⟩])
 .ret)
def Xq41.b0 : ACode := (.seq (.region false [
 ⟨some 9, .bin .lss (.tmp 8) (.tmp 7), none, [], []⟩])
 (.seq (.cond (.tmp 9) .skip
 (.exit 0))
 (.seq (.seq (.block 1 (.seq (.seq (.region false [
 ⟨some 10, .iaddr 1 (.tmp 6) (.tmp 8), none, [], []⟩,
 ⟨some 11, .load false 1 (.tmp 10), none, [], []⟩,
 ⟨some 5, .mv (.tmp 11), none, [], []⟩])
 (.ghost (.kill [9, 10, 11])))
 (.seq (.seq (.region false [
 ⟨some 12, .mv (.tmp 5), none, [], []⟩,
 ⟨some 13, .mv (.tmp 3), none, [], []⟩,
 ⟨some 14, .bin .neq (.tmp 12) (.tmp 13), none, [], []⟩])
 (.ghost (.kill [12, 13])))
 (.cond (.tmp 14) (.seq (.region false [
   ⟨some 15, .mv (.tmp 5), none, [], []⟩,
   ⟨some 2, .mv (.tmp 15), none, [], []⟩])
  .ret)
 .skip))))
 (.ghost (.kill [5, 14])))
 (.seq (.region false [
 ⟨some 16, .bin .add (.tmp 8) (.cst (.int .i64 1)), none, [], []⟩,
 ⟨some 8, .mv (.tmp 16), none, [], []⟩])
 (.ghost (.kill [16]))))))
def Xq41.main : ACode := (.seq (.seq (.region false [
 ⟨some 2, .mv (.cst (.int .i64 0)), none, [], []⟩])
 (.ghost (.kill [2])))
 (.seq (.region false [
 ⟨some 3, .mv (.cst (.int .i64 0)), none, [], []⟩])
 (.seq (.seq (.seq (.region false [
 ⟨some 6, .mv (.tmp 0), none, [], []⟩,
 ⟨some 7, .len .sl (.tmp 6), none, [], []⟩,
 ⟨some 8, .mv (.cst (.int .i64 0)), none, [], []⟩])
 (.ghost (.kill [0])))
 (.seq (.block 0 (.loop Xq41.b0))
 (.ghost (.kill [6, 7, 8, 9]))))
 Xq41.c0)))
def Xq41.k0 : List Item := [.inBlock 0, .code (.ghost (.kill [6, 7, 8, 9])), .code Xq41.c0]
def Xq41 : AFunc := ⟨18, [.tmp 2], Xq41.main, false⟩
def Xq23.main : ACode := (.seq (.seq (.region false [
 ⟨some 4, .mv (.cst (.int .i64 0)), none, [], []⟩])
 (.ghost (.kill [4])))
 (.seq (.region false [
 ⟨some 5, .mv (.tmp 0), none, [], []⟩,
 ⟨some 6, .mv (.tmp 1), none, [], []⟩,
 ⟨some 7, .call true i_Xq8 [(.tmp 5), (.tmp 6), (.cst (.clo (.func i_Xq51) [] []))], none, [], []⟩,
 ⟨some 4, .mv (.tmp 7), none, [], []⟩])
 .ret))
def Xq23 : AFunc := ⟨8, [.tmp 4], Xq23.main, false⟩
def Xq17.c0 : ACode := (.seq (.region false [
 ⟨some 30, .mv (.tmp 5), none, [], []⟩,
 ⟨some 4, .mv (.tmp 30), none, [], []⟩])
 .ret)
def Xq17.c1 : ACode := (.ghost (.kill [0, 8, 9, 10, 11]))
def Xq17.c2 : ACode := (.seq (.region false [
 ⟨some 29, .bin .add (.tmp 10) (.cst (.int .i64 1)), none, [], []⟩,
 ⟨some 10, .mv (.tmp 29), none, [], []⟩])
 (.ghost (.kill [29])))
def Xq17.b0 : ACode := (.seq (.region false [
 ⟨some 11, .bin .lss (.tmp 10) (.tmp 9), none, [], []⟩])
 (.seq (.cond (.tmp 11) .skip
 (.exit 0))
 (.seq (.trunc (.block 1 (.seq (.seq (.region false [
 ⟨some 12, .iaddr 1 (.tmp 8) (.tmp 10), none, [], []⟩,
 ⟨some 13, .load false 1 (.tmp 12), none, [], []⟩,
 ⟨some 7, .mv (.tmp 13), none, [], []⟩])
 (.ghost (.kill [11, 12, 13])))
 (.seq (.seq (.region false [
 ⟨some 14, .mv (.tmp 7), none, [], []⟩,
 ⟨some 15, .bin .geq (.tmp 14) (.cst (.int .i64 0)), none, [], []⟩,
 ⟨some 16, .mv (.tmp 15), none, [], []⟩,
 ⟨some 17, .mv (.tmp 7), (some ((some 16), true)), [], []⟩,
 ⟨some 18, .mv (.tmp 0), (some ((some 16), true)), [], []⟩,
 ⟨some 19, .len .sl (.tmp 18), (some ((some 16), true)), [], []⟩,
 ⟨some 20, .bin .lss (.tmp 17) (.tmp 19), (some ((some 16), true)), [], []⟩,
 ⟨some 21, .pick (.tmp 16) (.tmp 20) (.cst (.bool false)), none, [], []⟩])
 (.ghost (.kill [14, 15, 16, 17, 18, 19, 20])))
 (.seq (.cond (.tmp 21) (.seq (.region false [
   ⟨some 22, .mv (.tmp 5), none, [], []⟩,
   ⟨some 23, .mv (.tmp 0), none, [], []⟩,
   ⟨some 24, .mv (.tmp 7), none, [], []⟩,
   ⟨some 25, .iaddr 3 (.tmp 23) (.tmp 24), none, [], []⟩,
   ⟨some 26, .load true 3 (.tmp 25), none, [], []⟩,
   ⟨some 27, .bslice 3 1 [(.int .i64 0), (.int .i64 0), (.str ⟨#[]⟩)] [(0, (.tmp 26))], none, [], []⟩,
   ⟨some 28, .append 3 32 (.tmp 22) (.tmp 27), none, [], []⟩,
   ⟨some 5, .mv (.tmp 28), none, [], []⟩])
  (.ghost (.kill [7, 21, 22, 23, 24, 25, 26, 27, 28])))
 .skip)
 (.ghost (.kill [7, 21])))))))
 Xq17.c2)))
def Xq17.main : ACode := (.seq (.seq (.region false [
 ⟨some 4, .mv (.cst .nils), none, [], []⟩])
 (.ghost (.kill [4])))
 (.seq (.seq (.region false [
 ⟨some 5, .mv (.cst .nils), none, [], []⟩])
 (.ghost (.nilref 5 3)))
 (.seq (.seq (.seq (.region false [
 ⟨some 8, .mv (.tmp 1), none, [], []⟩,
 ⟨some 9, .len .sl (.tmp 8), none, [], []⟩,
 ⟨some 10, .mv (.cst (.int .i64 0)), none, [], []⟩])
 (.ghost (.kill [1])))
 (.seq (.block 0 (.loop Xq17.b0))
 Xq17.c1))
 Xq17.c0)))
def Xq17.k0 : List Item := [.inBlock 0, .code Xq17.c1, .code Xq17.c0]
def Xq17 : AFunc := ⟨31, [.tmp 4], Xq17.main, false⟩
def Xq45.main : ACode := (.seq (.seq (.region false [
 ⟨some 3, .box 1 (.tmp 1), none, [], []⟩,
 ⟨some 4, .mv (.cst (.bool false)), none, [], []⟩])
 (.ghost (.kill [1, 4])))
 (.seq (.region false [
 ⟨some 5, .load false 1 (.tmp 3), none, [], []⟩,
 ⟨some 6, .bin .geq (.tmp 5) (.cst (.int .i64 0)), none, [], []⟩,
 ⟨some 7, .mv (.tmp 6), none, [], []⟩,
 ⟨some 8, .mv (.tmp 0), (some ((some 7), true)), [], []⟩,
 ⟨some 9, .mkfn (.func i_Xq33) [] [(.tmp 3)], (some ((some 7), true)), [], []⟩,
 ⟨some 10, .call true i_Xq6 [(.tmp 8), (.tmp 9)], (some ((some 7), true)), [], []⟩,
 ⟨some 11, .un .not (.tmp 10), (some ((some 7), true)), [], []⟩,
 ⟨some 12, .pick (.tmp 7) (.tmp 11) (.cst (.bool false)), none, [], []⟩,
 ⟨some 4, .mv (.tmp 12), none, [], []⟩])
 .ret))
def Xq45 : AFunc := ⟨13, [.tmp 4], Xq45.main, false⟩
def Xq6.main : ACode := (.seq (.seq (.region false [
 ⟨some 4, .mv (.cst (.bool false)), none, [], []⟩])
 (.ghost (.kill [4])))
 (.seq (.region false [
 ⟨some 5, .mv (.tmp 0), none, [], []⟩,
 ⟨some 6, .mv (.tmp 1), none, [], []⟩,
 ⟨some 7, .call true i_Xq9 [(.tmp 5), (.tmp 6)], none, [], []⟩,
 ⟨some 8, .bin .geq (.tmp 7) (.cst (.int .i64 0)), none, [], []⟩,
 ⟨some 4, .mv (.tmp 8), none, [], []⟩])
 .ret))
def Xq6 : AFunc := ⟨9, [.tmp 4], Xq6.main, false⟩
def Xq33.main : ACode := (.seq (.seq (.region false [
 ⟨some 3, .mv (.cst (.bool false)), none, [], []⟩])
 (.ghost (.kill [3])))
 (.seq (.region false [
 ⟨some 4, .load false 1 (.tmp 1), none, [], []⟩,
 ⟨some 5, .mv (.tmp 0), none, [], []⟩,
 ⟨some 6, .len .sl (.tmp 5), none, [], []⟩,
 ⟨some 7, .bin .geq (.tmp 4) (.tmp 6), none, [], []⟩,
 ⟨some 3, .mv (.tmp 7), none, [], []⟩])
 .ret))
def Xq33 : AFunc := ⟨8, [.tmp 3], Xq33.main, false⟩
def Xq53.main : ACode := (.seq (.seq (.region false [
 ⟨some 4, .mv (.cst .nils), none, [], []⟩])
 (.ghost (.kill [4])))
 (.seq (.region false [
 ⟨some 5, .mv (.tmp 0), none, [], []⟩,
 ⟨some 6, .call false i_Xq10 [(.tmp 5)], none, [], []⟩,
 ⟨some 7, .mv (.tmp 1), none, [], []⟩,
 ⟨some 8, .append 3 32 (.tmp 6) (.tmp 7), none, [], []⟩,
 ⟨some 4, .mv (.tmp 8), none, [], []⟩])
 .ret))
def Xq53 : AFunc := ⟨9, [.tmp 4], Xq53.main, false⟩
def Xq37.main : ACode := (.seq (.seq (.region false [
 ⟨some 3, .box 1 (.tmp 0), none, [], []⟩,
 ⟨some 4, .mv (.cst .nilf), none, [], []⟩])
 (.ghost (.kill [0, 4])))
 (.seq (.region false [
 ⟨some 5, .mkfn (.func i_Xq22) [] [(.tmp 1), (.tmp 3), (.tmp 2)], none, [], []⟩,
 ⟨some 4, .mv (.tmp 5), none, [], []⟩])
 .ret))
def Xq37 : AFunc := ⟨6, [.tmp 4], Xq37.main, false⟩
def Xq22.c0 : ACode := (.ghost (.kill [0, 7, 8, 9, 10]))
def Xq22.b0 : ACode := (.seq (.region false [
 ⟨some 10, .bin .lss (.tmp 9) (.tmp 8), none, [], []⟩])
 (.seq (.cond (.tmp 10) .skip
 (.exit 0))
 (.seq (.trunc (.seq (.block 1 (.seq (.seq (.region false [
 ⟨some 11, .iaddr 1 (.tmp 7) (.tmp 9), none, [], []⟩,
 ⟨some 12, .load false 1 (.tmp 11), none, [], []⟩,
 ⟨some 6, .mv (.tmp 12), none, [], []⟩])
 (.ghost (.kill [10, 11, 12])))
 (.seq (.seq (.region true [
 ⟨some 13, .load false 1 (.tmp 2), none, [], [2]⟩,
 ⟨some 14, .iaddrA 2 1 (.tmp 3) (.cst (.int .i64 0)), none, [], [3]⟩,
 ⟨some 15, .load false 1 (.tmp 14), none, [1], [14]⟩,
 ⟨some 16, .iaddr 3 (.tmp 13) (.tmp 15), none, [0, 2], [13, 15]⟩,
 ⟨some 17, .faddr 0 (.tmp 16), none, [3], [16]⟩,
 ⟨some 18, .load false 1 (.tmp 17), none, [4], [17]⟩,
 ⟨some 19, .bin .neq (.tmp 18) (.cst (.int .i64 0)), none, [5], [18]⟩,
 ⟨some 20, .mv (.tmp 19), none, [6], [19]⟩,
 ⟨some 21, .load false 1 (.tmp 2), (some ((some 20), true)), [7], [2]⟩,
 ⟨some 22, .iaddrA 2 1 (.tmp 3) (.cst (.int .i64 0)), (some ((some 20), true)), [7], [3]⟩,
 ⟨some 23, .load false 1 (.tmp 22), (some ((some 20), true)), [9, 7], [22]⟩,
 ⟨some 24, .iaddr 3 (.tmp 21) (.tmp 23), (some ((some 20), true)), [8, 10, 7], [21, 23]⟩,
 ⟨some 25, .load true 3 (.tmp 24), (some ((some 20), true)), [11, 7], [24]⟩,
 ⟨some 26, .mv (.tmp 6), (some ((some 20), true)), [7], [6]⟩,
 ⟨some 27, .iaddrA 2 1 (.tmp 3) (.cst (.int .i64 1)), (some ((some 20), true)), [7], [3]⟩,
 ⟨some 28, .load false 1 (.tmp 27), (some ((some 20), true)), [14, 7], [27]⟩,
 ⟨some 29, .iaddr 3 (.tmp 26) (.tmp 28), (some ((some 20), true)), [13, 15, 7], [26, 28]⟩,
 ⟨some 30, .load true 3 (.tmp 29), (some ((some 20), true)), [16, 7], [29]⟩,
 ⟨some 31, .eqs false (.row [(0, 1, false, (.int .i64)), (1, 1, false, (.int .i64)), (2, 1, false, .str)]) (.tmp 25) (.tmp 30), (some ((some 20), true)), [12, 17, 7], [25, 30]⟩,
 ⟨some 32, .pick (.tmp 20) (.tmp 31) (.cst (.bool false)), none, [7, 18], [20, 31]⟩,
 ⟨some 33, .mv (.tmp 32), none, [19, 7], [32]⟩,
 ⟨some 34, .mv (.tmp 0), (some ((some 33), true)), [20], [0]⟩,
 ⟨some 35, .mv (.tmp 6), (some ((some 33), true)), [20], [6]⟩,
 ⟨some 36, .callv false (.tmp 34) [(.tmp 35)], (some ((some 33), true)), [21, 22, 20, 20], [34, 35]⟩,
 ⟨some 37, .un .not (.tmp 36), (some ((some 33), true)), [23, 20], [36]⟩,
 ⟨some 38, .pick (.tmp 33) (.tmp 37) (.cst (.bool false)), none, [20, 24], [33, 37]⟩])
 (.ghost (.kill [6, 13, 14, 15, 16, 17, 18, 19, 20, 21, 22, 23, 24, 25, 26, 27, 28, 29, 30, 31, 32, 33, 34, 35, 36, 37])))
 (.cond (.tmp 38) .ret
 .skip))))
 (.ghost (.kill [38]))))
 (.seq (.region false [
 ⟨some 39, .bin .add (.tmp 9) (.cst (.int .i64 1)), none, [], []⟩,
 ⟨some 9, .mv (.tmp 39), none, [], []⟩])
 (.ghost (.kill [39]))))))
def Xq22.main : ACode := (.seq (.region false [
 ⟨some 7, .load false 1 (.tmp 1), none, [], []⟩,
 ⟨some 8, .len .sl (.tmp 7), none, [], []⟩,
 ⟨some 9, .mv (.cst (.int .i64 0)), none, [], []⟩])
 (.seq (.block 0 (.loop Xq22.b0))
 Xq22.c0))
def Xq22.k0 : List Item := [.inBlock 0, .code Xq22.c0]
def Xq22 : AFunc := ⟨40, [], Xq22.main, false⟩
def Xq30.main : ACode := (.seq (.seq (.region false [
 ⟨some 4, .mv (.cst .nilf), none, [], []⟩])
 (.ghost (.kill [4])))
 (.seq (.region true [
 ⟨some 5, .load false 1 (.tmp 1), none, [], [1]⟩,
 ⟨some 6, .mv (.tmp 0), none, [], [0]⟩,
 ⟨some 7, .iaddrA 2 1 (.tmp 2) (.cst (.int .i64 0)), none, [], [2]⟩,
 ⟨some 8, .load false 1 (.tmp 7), none, [2], [7]⟩,
 ⟨some 9, .iaddr 3 (.tmp 6) (.tmp 8), none, [1, 3], [6, 8]⟩,
 ⟨some 10, .load true 3 (.tmp 9), none, [4], [9]⟩,
 ⟨some 11, .lookup (.row [(0, 1, false, (.int .i64)), (1, 1, false, (.int .i64)), (2, 1, false, .str)]) .nils false (.tmp 5) (.tmp 10), none, [0, 5], [5, 10]⟩,
 ⟨some 12, .call true i_Xq12 [(.tmp 11)], none, [6], [11]⟩,
 ⟨some 4, .mv (.tmp 12), none, [7, 7, 0, 1, 2, 3, 4, 5, 6, 7], [12]⟩])
 .ret))
def Xq30 : AFunc := ⟨13, [.tmp 4], Xq30.main, false⟩
def Xq12.main : ACode := (.seq (.seq (.region false [
 ⟨some 1, .box 1 (.tmp 0), none, [], []⟩,
 ⟨some 2, .mv (.cst .nilf), none, [], []⟩])
 (.ghost (.kill [0, 2])))
 (.seq (.region false [
 ⟨some 3, .mkfn (.func i_Xq11) [] [(.tmp 1)], none, [], []⟩,
 ⟨some 2, .mv (.tmp 3), none, [], []⟩])
 .ret))
def Xq12 : AFunc := ⟨4, [.tmp 2], Xq12.main, false⟩
def Xq20.c0 : ACode := (.seq (.region false [
 ⟨some 17, .mv (.tmp 3), none, [], []⟩,
 ⟨some 2, .mv (.tmp 17), none, [], []⟩])
 .ret)
def Xq20.b0 : ACode := (.seq (.region false [
 ⟨some 9, .bin .lss (.tmp 8) (.tmp 7), none, [], []⟩])
 (.seq (.cond (.tmp 9) .skip
 (.exit 0))
 (.seq (.seq (.block 1 (.seq (.seq (.region false [
 ⟨some 10, .iaddr 1 (.tmp 6) (.tmp 8), none, [], []⟩,
 ⟨some 11, .load false 1 (.tmp 10), none, [], []⟩,
 ⟨some 5, .mv (.tmp 11), none, [], []⟩])
 (.ghost (.kill [9, 10, 11])))
 (.seq (.seq (.region false [
 ⟨some 12, .mv (.tmp 5), none, [], []⟩,
 ⟨some 13, .mv (.tmp 3), none, [], []⟩,
 ⟨some 14, .bin .neq (.tmp 12) (.tmp 13), none, [], []⟩])
 (.ghost (.kill [12, 13])))
 (.cond (.tmp 14) (.seq (.region false [
   ⟨some 15, .mv (.tmp 5), none, [], []⟩,
   ⟨some 2, .mv (.tmp 15), none, [], []⟩])
  .ret)
 .skip))))
 (.ghost (.kill [5, 14])))
 (.seq (.region false [
 ⟨some 16, .bin .add (.tmp 8) (.cst (.int .i64 1)), none, [], []⟩,
 ⟨some 8, .mv (.tmp 16), none, [], []⟩])
 (.ghost (.kill [16]))))))
def Xq20.main : ACode := (.seq (.seq (.region false [
 ⟨some 2, .mv (.cst (.int .i64 0)), none, [], []⟩])
 (.ghost (.kill [2])))
 (.seq (.region false [
 ⟨some 3, .mv (.cst (.int .i64 0)), none, [], []⟩])
 (.seq (.seq (.seq (.region false [
 ⟨some 6, .mv (.tmp 0), none, [], []⟩,
 ⟨some 7, .len .sl (.tmp 6), none, [], []⟩,
 ⟨some 8, .mv (.cst (.int .i64 0)), none, [], []⟩])
 (.ghost (.kill [0])))
 (.seq (.block 0 (.loop Xq20.b0))
 (.ghost (.kill [6, 7, 8, 9]))))
 Xq20.c0)))
def Xq20.k0 : List Item := [.inBlock 0, .code (.ghost (.kill [6, 7, 8, 9])), .code Xq20.c0]
def Xq20 : AFunc := ⟨18, [.tmp 2], Xq20.main, false⟩
def Xq19.main : ACode := (.seq (.seq (.region false [
 ⟨some 4, .mv (.cst (.int .i64 0)), none, [], []⟩])
 (.ghost (.kill [4])))
 (.seq (.seq (.region false [
 ⟨some 7, .mv (.tmp 0), none, [], []⟩,
 ⟨some 8, .call true i_Xq26 [(.tmp 7)], none, [], []⟩,
 ⟨some 5, .mv (.tmp 8), none, [], []⟩])
 (.ghost (.kill [7, 8])))
 (.seq (.seq (.region false [
 ⟨some 9, .mv (.tmp 1), none, [], []⟩,
 ⟨some 10, .call true i_Xq26 [(.tmp 9)], none, [], []⟩,
 ⟨some 6, .mv (.tmp 10), none, [], []⟩])
 (.ghost (.kill [9, 10])))
 (.seq (.seq (.seq (.region false [
 ⟨some 11, .mv (.tmp 5), none, [], []⟩])
 (.ghost (.kill [5])))
 (.cond (.tmp 11) (.seq (.seq (.seq (.region false [
   ⟨some 12, .mv (.tmp 6), none, [], []⟩])
  (.ghost (.kill [0, 1, 6, 11])))
  (.cond (.tmp 12) (.seq (.region false [
    ⟨some 4, .mv (.cst (.int .i64 0)), none, [], []⟩])
   .ret)
  .skip))
  (.seq (.region false [
   ⟨some 4, .mv (.cst (.int .i64 (-1))), none, [], []⟩])
  .ret))
 .skip))
 (.seq (.seq (.seq (.region false [
 ⟨some 13, .mv (.tmp 6), none, [], []⟩])
 (.ghost (.kill [6, 11])))
 (.cond (.tmp 13) (.seq (.region false [
   ⟨some 4, .mv (.cst (.int .i64 1)), none, [], []⟩])
  .ret)
 .skip))
 (.seq (.seq (.seq (.region false [
 ⟨some 14, .mv (.tmp 0), none, [], []⟩,
 ⟨some 15, .mv (.tmp 1), none, [], []⟩,
 ⟨some 16, .bin .lss (.tmp 14) (.tmp 15), none, [], []⟩])
 (.ghost (.kill [13, 14, 15])))
 (.cond (.tmp 16) (.seq (.region false [
   ⟨some 4, .mv (.cst (.int .i64 (-1))), none, [], []⟩])
  .ret)
 .skip))
 (.seq (.seq (.seq (.region false [
 ⟨some 17, .mv (.tmp 0), none, [], []⟩,
 ⟨some 18, .mv (.tmp 1), none, [], []⟩,
 ⟨some 19, .bin .gtr (.tmp 17) (.tmp 18), none, [], []⟩])
 (.ghost (.kill [0, 1, 16, 17, 18])))
 (.cond (.tmp 19) (.seq (.region false [
   ⟨some 4, .mv (.cst (.int .i64 1)), none, [], []⟩])
  .ret)
 .skip))
 (.seq (.region false [
 ⟨some 4, .mv (.cst (.int .i64 0)), none, [], []⟩])
 .ret))))))))
def Xq19 : AFunc := ⟨20, [.tmp 4], Xq19.main, false⟩
def Xq14.main : ACode := (.seq (.seq (.region false [
 ⟨some 4, .mv (.cst (.int .i64 0)), none, [], []⟩])
 (.ghost (.kill [4])))
 (.seq (.seq (.region false [
 ⟨some 7, .mv (.tmp 0), none, [], []⟩,
 ⟨some 8, .call true i_Xq16 [(.tmp 7)], none, [], []⟩,
 ⟨some 5, .mv (.tmp 8), none, [], []⟩])
 (.ghost (.kill [7, 8])))
 (.seq (.seq (.region false [
 ⟨some 9, .mv (.tmp 1), none, [], []⟩,
 ⟨some 10, .call true i_Xq16 [(.tmp 9)], none, [], []⟩,
 ⟨some 6, .mv (.tmp 10), none, [], []⟩])
 (.ghost (.kill [9, 10])))
 (.seq (.seq (.seq (.region false [
 ⟨some 11, .mv (.tmp 5), none, [], []⟩])
 (.ghost (.kill [5])))
 (.cond (.tmp 11) (.seq (.seq (.seq (.region false [
   ⟨some 12, .mv (.tmp 6), none, [], []⟩])
  (.ghost (.kill [0, 1, 6, 11])))
  (.cond (.tmp 12) (.seq (.region false [
    ⟨some 4, .mv (.cst (.int .i64 0)), none, [], []⟩])
   .ret)
  .skip))
  (.seq (.region false [
   ⟨some 4, .mv (.cst (.int .i64 (-1))), none, [], []⟩])
  .ret))
 .skip))
 (.seq (.seq (.seq (.region false [
 ⟨some 13, .mv (.tmp 6), none, [], []⟩])
 (.ghost (.kill [6, 11])))
 (.cond (.tmp 13) (.seq (.region false [
   ⟨some 4, .mv (.cst (.int .i64 1)), none, [], []⟩])
  .ret)
 .skip))
 (.seq (.seq (.seq (.region false [
 ⟨some 14, .mv (.tmp 0), none, [], []⟩,
 ⟨some 15, .mv (.tmp 1), none, [], []⟩,
 ⟨some 16, .bin .lss (.tmp 14) (.tmp 15), none, [], []⟩])
 (.ghost (.kill [13, 14, 15])))
 (.cond (.tmp 16) (.seq (.region false [
   ⟨some 4, .mv (.cst (.int .i64 (-1))), none, [], []⟩])
  .ret)
 .skip))
 (.seq (.seq (.seq (.region false [
 ⟨some 17, .mv (.tmp 0), none, [], []⟩,
 ⟨some 18, .mv (.tmp 1), none, [], []⟩,
 ⟨some 19, .bin .gtr (.tmp 17) (.tmp 18), none, [], []⟩])
 (.ghost (.kill [0, 1, 16, 17, 18])))
 (.cond (.tmp 19) (.seq (.region false [
   ⟨some 4, .mv (.cst (.int .i64 1)), none, [], []⟩])
  .ret)
 .skip))
 (.seq (.region false [
 ⟨some 4, .mv (.cst (.int .i64 0)), none, [], []⟩])
 .ret))))))))
def Xq14 : AFunc := ⟨20, [.tmp 4], Xq14.main, false⟩
def Xq28.c0 : ACode := (.seq (.region false [
 ⟨some 56, .load false 1 (.tmp 3), none, [], []⟩,
 ⟨some 57, .load false 1 (.tmp 2), none, [], []⟩,
 ⟨some 58, .mv (.tmp 7), none, [], []⟩,
 ⟨some 59, .slice 1 (.tmp 56) (some (.tmp 57)) (some (.tmp 58)) none, none, [], []⟩,
 ⟨some 60, .call true i_Xq12 [(.tmp 59)], none, [], []⟩,
 ⟨some 5, .mv (.tmp 60), none, [], []⟩])
 .ret)
def Xq28.b1 : ACode := (.seq (.seq (.seq (.region true [
 ⟨some 33, .mv (.tmp 7), none, [], [7]⟩,
 ⟨some 34, .load false 1 (.tmp 3), none, [], [3]⟩,
 ⟨some 35, .len .sl (.tmp 34), none, [1], [34]⟩,
 ⟨some 36, .bin .lss (.tmp 33) (.tmp 35), none, [0, 2], [33, 35]⟩,
 ⟨some 37, .mv (.tmp 36), none, [3], [36]⟩,
 ⟨some 38, .faddr 0 (.tmp 6), (some ((some 37), true)), [4], [6]⟩,
 ⟨some 39, .load false 1 (.tmp 38), (some ((some 37), true)), [5, 4], [38]⟩,
 ⟨some 40, .bin .neq (.tmp 39) (.cst (.int .i64 0)), (some ((some 37), true)), [6, 4], [39]⟩,
 ⟨some 41, .pick (.tmp 37) (.tmp 40) (.cst (.bool false)), none, [4, 7], [37, 40]⟩,
 ⟨some 42, .mv (.tmp 41), none, [8, 4], [41]⟩,
 ⟨some 43, .load false 1 (.tmp 3), (some ((some 42), true)), [9], [3]⟩,
 ⟨some 44, .mv (.tmp 7), (some ((some 42), true)), [9], [7]⟩,
 ⟨some 45, .iaddr 1 (.tmp 43) (.tmp 44), (some ((some 42), true)), [10, 11, 9], [43, 44]⟩,
 ⟨some 46, .load false 1 (.tmp 45), (some ((some 42), true)), [12, 9], [45]⟩,
 ⟨some 47, .iaddrA 2 1 (.tmp 1) (.cst (.int .i64 1)), (some ((some 42), true)), [9], [1]⟩,
 ⟨some 48, .load false 1 (.tmp 47), (some ((some 42), true)), [14, 9], [47]⟩,
 ⟨some 49, .iaddr 3 (.tmp 46) (.tmp 48), (some ((some 42), true)), [13, 15, 9], [46, 48]⟩,
 ⟨some 50, .load true 3 (.tmp 49), (some ((some 42), true)), [16, 9], [49]⟩,
 ⟨some 51, .load true 3 (.tmp 6), (some ((some 42), true)), [9], [6]⟩,
 ⟨some 52, .eqs false (.row [(0, 1, false, (.int .i64)), (1, 1, false, (.int .i64)), (2, 1, false, .str)]) (.tmp 50) (.tmp 51), (some ((some 42), true)), [17, 18, 9], [50, 51]⟩,
 ⟨some 53, .pick (.tmp 42) (.tmp 52) (.cst (.bool false)), none, [9, 19], [42, 52]⟩])
 (.ghost (.kill [33, 34, 35, 36, 37, 38, 39, 40, 41, 42, 43, 44, 45, 46, 47, 48, 49, 50, 51, 52])))
 (.cond (.tmp 53) .skip
 (.exit 2)))
 (.block 3 (.seq (.region false [
 ⟨some 54, .mv (.tmp 7), none, [], []⟩,
 ⟨some 55, .bin .add (.tmp 54) (.cst (.int .i64 1)), none, [], []⟩,
 ⟨some 7, .mv (.tmp 55), none, [], []⟩])
 (.ghost (.kill [53, 54, 55])))))
def Xq28.c1 : ACode := (.seq (.seq (.region false [
 ⟨some 32, .load false 1 (.tmp 2), none, [], []⟩,
 ⟨some 7, .mv (.tmp 32), none, [], []⟩])
 (.ghost (.kill [32])))
 (.seq (.seq (.block 2 (.loop Xq28.b1))
 (.ghost (.kill [6, 53])))
 Xq28.c0))
def Xq28.b0 : ACode := (.seq (.seq (.seq (.region true [
 ⟨some 13, .load false 1 (.tmp 2), none, [], [2]⟩,
 ⟨some 14, .load false 1 (.tmp 3), none, [], [3]⟩,
 ⟨some 15, .len .sl (.tmp 14), none, [1], [14]⟩,
 ⟨some 16, .bin .lss (.tmp 13) (.tmp 15), none, [0, 2], [13, 15]⟩,
 ⟨some 17, .mv (.tmp 16), none, [3], [16]⟩,
 ⟨some 18, .load false 1 (.tmp 3), (some ((some 17), true)), [4], [3]⟩,
 ⟨some 19, .load false 1 (.tmp 2), (some ((some 17), true)), [4], [2]⟩,
 ⟨some 20, .iaddr 1 (.tmp 18) (.tmp 19), (some ((some 17), true)), [5, 6, 4], [18, 19]⟩,
 ⟨some 21, .load false 1 (.tmp 20), (some ((some 17), true)), [7, 4], [20]⟩,
 ⟨some 22, .iaddrA 2 1 (.tmp 1) (.cst (.int .i64 1)), (some ((some 17), true)), [4], [1]⟩,
 ⟨some 23, .load false 1 (.tmp 22), (some ((some 17), true)), [9, 4], [22]⟩,
 ⟨some 24, .iaddr 3 (.tmp 21) (.tmp 23), (some ((some 17), true)), [8, 10, 4], [21, 23]⟩,
 ⟨some 25, .load true 3 (.tmp 24), (some ((some 17), true)), [11, 4], [24]⟩,
 ⟨some 26, .load true 3 (.tmp 6), (some ((some 17), true)), [4], [6]⟩,
 ⟨some 27, .call true i_Xq51 [(.tmp 25), (.tmp 26)], (some ((some 17), true)), [12, 13, 4, 4], [25, 26]⟩,
 ⟨some 28, .bin .lss (.tmp 27) (.cst (.int .i64 0)), (some ((some 17), true)), [14, 4], [27]⟩,
 ⟨some 29, .pick (.tmp 17) (.tmp 28) (.cst (.bool false)), none, [4, 15], [17, 28]⟩])
 (.ghost (.kill [13, 14, 15, 16, 17, 18, 19, 20, 21, 22, 23, 24, 25, 26, 27, 28])))
 (.cond (.tmp 29) .skip
 (.exit 0)))
 (.block 1 (.seq (.region false [
 ⟨some 30, .load false 1 (.tmp 2), none, [], []⟩,
 ⟨some 31, .bin .add (.tmp 30) (.cst (.int .i64 1)), none, [], []⟩,
 ⟨none, .store 1 (.tmp 2) (.tmp 31), none, [], []⟩])
 (.ghost (.kill [29, 30, 31])))))
def Xq28.main : ACode := (.seq (.seq (.region false [
 ⟨some 5, .mv (.cst .nilf), none, [], []⟩])
 (.ghost (.kill [5])))
 (.seq (.seq (.region false [
 ⟨some 8, .mv (.tmp 0), none, [], []⟩,
 ⟨some 9, .iaddrA 2 1 (.tmp 1) (.cst (.int .i64 0)), none, [], []⟩,
 ⟨some 10, .load false 1 (.tmp 9), none, [], []⟩,
 ⟨some 11, .iaddr 3 (.tmp 8) (.tmp 10), none, [], []⟩,
 ⟨some 12, .load true 3 (.tmp 11), none, [], []⟩,
 ⟨some 6, .alloc [(.int .i64 0), (.int .i64 0), (.str ⟨#[]⟩)], none, [], []⟩,
 ⟨none, .store 3 (.tmp 6) (.tmp 12), none, [], []⟩])
 (.ghost (.kill [0, 8, 9, 10, 11, 12])))
 (.seq (.seq (.block 0 (.loop Xq28.b0))
 (.ghost (.kill [29])))
 Xq28.c1)))
def Xq28.k1 : List Item := [.inBlock 2, .code (.ghost (.kill [6, 53])), .code Xq28.c0]
def Xq28.k0 : List Item := [.inBlock 0, .code (.ghost (.kill [29])), .code Xq28.c1]
def Xq28 : AFunc := ⟨61, [.tmp 5], Xq28.main, false⟩
def Xq0.c0 : ACode := (.ghost (.kill [0, 1, 2, 3, 8, 14]))
def Xq0.c1 : ACode := (.seq (.region false [
 ⟨some 15, .mv (.tmp 8), none, [], []⟩,
 ⟨some 16, .bin .add (.tmp 15) (.cst (.int .i64 1)), none, [], []⟩,
 ⟨some 8, .mv (.tmp 16), none, [], []⟩])
 (.ghost (.kill [15, 16])))
def Xq0.b1 : ACode := (.seq (.seq (.seq (.region true [
 ⟨some 18, .mv (.tmp 9), none, [], [9]⟩,
 ⟨some 19, .mv (.tmp 1), none, [], [1]⟩,
 ⟨some 20, .bin .gtr (.tmp 18) (.tmp 19), none, [0, 1], [18, 19]⟩,
 ⟨some 21, .mv (.tmp 20), none, [2], [20]⟩,
 ⟨some 22, .mv (.tmp 3), (some ((some 21), true)), [3], [3]⟩,
 ⟨some 23, .mv (.tmp 0), (some ((some 21), true)), [3], [0]⟩,
 ⟨some 24, .mv (.tmp 9), (some ((some 21), true)), [3], [9]⟩,
 ⟨some 25, .iaddr 1 (.tmp 23) (.tmp 24), (some ((some 21), true)), [5, 6, 3], [23, 24]⟩,
 ⟨some 26, .load false 1 (.tmp 25), (some ((some 21), true)), [7, 3], [25]⟩,
 ⟨some 27, .mv (.tmp 0), (some ((some 21), true)), [3], [0]⟩,
 ⟨some 28, .mv (.tmp 9), (some ((some 21), true)), [3], [9]⟩,
 ⟨some 29, .bin .sub (.tmp 28) (.cst (.int .i64 1)), (some ((some 21), true)), [10, 3], [28]⟩,
 ⟨some 30, .iaddr 1 (.tmp 27) (.tmp 29), (some ((some 21), true)), [9, 11, 3], [27, 29]⟩,
 ⟨some 31, .load false 1 (.tmp 30), (some ((some 21), true)), [12, 3], [30]⟩,
 ⟨some 32, .callv true (.tmp 22) [(.tmp 26), (.tmp 31)], (some ((some 21), true)), [4, 8, 13, 3, 3], [22, 26, 31]⟩,
 ⟨some 33, .bin .lss (.tmp 32) (.cst (.int .i64 0)), (some ((some 21), true)), [14, 3], [32]⟩,
 ⟨some 34, .pick (.tmp 21) (.tmp 33) (.cst (.bool false)), none, [3, 15], [21, 33]⟩])
 (.ghost (.kill [18, 19, 20, 21, 22, 23, 24, 25, 26, 27, 28, 29, 30, 31, 32, 33])))
 (.cond (.tmp 34) .skip
 (.exit 2)))
 (.seq (.block 3 (.seq (.region true [
 ⟨some 37, .mv (.tmp 0), none, [], [0]⟩,
 ⟨some 38, .mv (.tmp 9), none, [], [9]⟩,
 ⟨some 39, .mv (.tmp 0), none, [], [0]⟩,
 ⟨some 40, .mv (.tmp 9), none, [], [9]⟩,
 ⟨some 41, .bin .sub (.tmp 40) (.cst (.int .i64 1)), none, [3], [40]⟩,
 ⟨some 42, .mv (.tmp 0), none, [], [0]⟩,
 ⟨some 43, .mv (.tmp 9), none, [], [9]⟩,
 ⟨some 44, .bin .sub (.tmp 43) (.cst (.int .i64 1)), none, [6], [43]⟩,
 ⟨some 45, .iaddr 1 (.tmp 42) (.tmp 44), none, [5, 7], [42, 44]⟩,
 ⟨some 46, .load false 1 (.tmp 45), none, [8], [45]⟩,
 ⟨some 47, .mv (.tmp 0), none, [], [0]⟩,
 ⟨some 48, .mv (.tmp 9), none, [], [9]⟩,
 ⟨some 49, .iaddr 1 (.tmp 47) (.tmp 48), none, [10, 11], [47, 48]⟩,
 ⟨some 50, .load false 1 (.tmp 49), none, [12], [49]⟩,
 ⟨some 51, .iaddr 1 (.tmp 37) (.tmp 38), none, [0, 1, 0, 1, 5, 6, 7, 8, 9, 13], [37, 38]⟩,
 ⟨none, .store 1 (.tmp 51) (.tmp 46), none, [14, 9, 0, 1, 5, 6, 7, 8, 9, 13], [51, 46]⟩,
 ⟨some 52, .iaddr 1 (.tmp 39) (.tmp 41), none, [2, 4, 0, 1, 2, 3, 4, 5, 6, 7, 8, 9, 10, 11, 12, 13, 14, 15], [39, 41]⟩,
 ⟨none, .store 1 (.tmp 52) (.tmp 50), none, [16, 13, 15, 0, 1, 2, 3, 4, 5, 6, 7, 8, 9, 10, 11, 12, 13, 14, 15], [52, 50]⟩])
 (.ghost (.kill [34, 37, 38, 39, 40, 41, 42, 43, 44, 45, 46, 47, 48, 49, 50, 51, 52]))))
 (.seq (.region false [
 ⟨some 35, .mv (.tmp 9), none, [], []⟩,
 ⟨some 36, .bin .sub (.tmp 35) (.cst (.int .i64 1)), none, [], []⟩,
 ⟨some 9, .mv (.tmp 36), none, [], []⟩])
 (.ghost (.kill [35, 36])))))
def Xq0.b0 : ACode := (.seq (.seq (.seq (.region false [
 ⟨some 12, .mv (.tmp 8), none, [], []⟩,
 ⟨some 13, .mv (.tmp 2), none, [], []⟩,
 ⟨some 14, .bin .lss (.tmp 12) (.tmp 13), none, [], []⟩])
 (.ghost (.kill [12, 13])))
 (.cond (.tmp 14) .skip
 (.exit 0)))
 (.seq (.block 1 (.seq (.seq (.region false [
 ⟨some 17, .mv (.tmp 8), none, [], []⟩,
 ⟨some 9, .mv (.tmp 17), none, [], []⟩])
 (.ghost (.kill [14, 17])))
 (.seq (.block 2 (.loop Xq0.b1))
 (.ghost (.kill [9, 34])))))
 Xq0.c1))
def Xq0.main : ACode := (.seq (.seq (.region false [
 ⟨some 10, .mv (.tmp 1), none, [], []⟩,
 ⟨some 11, .bin .add (.tmp 10) (.cst (.int .i64 1)), none, [], []⟩,
 ⟨some 8, .mv (.tmp 11), none, [], []⟩])
 (.ghost (.kill [10, 11])))
 (.seq (.block 0 (.loop Xq0.b0))
 Xq0.c0))
def Xq0.k1 : List Item := [.inBlock 2, .code (.ghost (.kill [9, 34])), .inBlock 1, .code Xq0.c1, .inLoop Xq0.b0, .inBlock 0, .code Xq0.c0]
def Xq0.k0 : List Item := [.inBlock 0, .code Xq0.c0]
def Xq0 : AFunc := ⟨53, [], Xq0.main, false⟩
def Xq2.c0 : ACode := (.ghost (.kill [0, 3, 4, 18, 24, 213]))
def Xq2.c1 : ACode := (.seq (.seq (.region false [
 ⟨some 206, .mv (.tmp 18), none, [], []⟩,
 ⟨some 207, .mv (.tmp 24), none, [], []⟩,
 ⟨some 208, .bin .lss (.tmp 206) (.tmp 207), none, [], []⟩,
 ⟨some 209, .mv (.tmp 208), none, [], []⟩,
 ⟨some 210, .mv (.tmp 24), (some ((some 209), true)), [], []⟩,
 ⟨some 211, .mv (.tmp 3), (some ((some 209), true)), [], []⟩,
 ⟨some 212, .bin .lss (.tmp 210) (.tmp 211), (some ((some 209), true)), [], []⟩,
 ⟨some 213, .pick (.tmp 209) (.tmp 212) (.cst (.bool false)), none, [], []⟩])
 (.ghost (.kill [206, 207, 208, 209, 210, 211, 212])))
 (.seq (.cond (.tmp 213) (.seq (.region false [
   ⟨some 214, .mv (.tmp 0), none, [], []⟩,
   ⟨some 215, .mv (.tmp 18), none, [], []⟩,
   ⟨some 216, .mv (.tmp 24), none, [], []⟩,
   ⟨some 217, .mv (.tmp 3), none, [], []⟩,
   ⟨some 218, .mv (.tmp 4), none, [], []⟩,
   ⟨some 219, .call false i_Xq2 [(.tmp 214), (.tmp 215), (.tmp 216), (.tmp 217), (.tmp 218)], none, [], []⟩])
  (.ghost (.kill [0, 3, 4, 18, 24, 213, 214, 215, 216, 217, 218, 219])))
 .skip)
 Xq2.c0))
def Xq2.c2 : ACode := (.seq (.seq (.seq (.region false [
 ⟨some 192, .mv (.tmp 1), none, [], []⟩,
 ⟨some 193, .mv (.tmp 20), none, [], []⟩,
 ⟨some 194, .bin .lss (.tmp 192) (.tmp 193), none, [], []⟩,
 ⟨some 195, .mv (.tmp 194), none, [], []⟩,
 ⟨some 196, .mv (.tmp 20), (some ((some 195), true)), [], []⟩,
 ⟨some 197, .mv (.tmp 18), (some ((some 195), true)), [], []⟩,
 ⟨some 198, .bin .lss (.tmp 196) (.tmp 197), (some ((some 195), true)), [], []⟩,
 ⟨some 199, .pick (.tmp 195) (.tmp 198) (.cst (.bool false)), none, [], []⟩])
 (.ghost (.kill [192, 193, 194, 195, 196, 197, 198])))
 (.seq (.cond (.tmp 199) (.seq (.region false [
   ⟨some 200, .mv (.tmp 0), none, [], []⟩,
   ⟨some 201, .mv (.tmp 1), none, [], []⟩,
   ⟨some 202, .mv (.tmp 20), none, [], []⟩,
   ⟨some 203, .mv (.tmp 18), none, [], []⟩,
   ⟨some 204, .mv (.tmp 4), none, [], []⟩,
   ⟨some 205, .call false i_Xq2 [(.tmp 200), (.tmp 201), (.tmp 202), (.tmp 203), (.tmp 204)], none, [], []⟩])
  (.ghost (.kill [1, 20, 199, 200, 201, 202, 203, 204, 205])))
 .skip)
 (.ghost (.kill [1, 20, 199]))))
 Xq2.c1)
def Xq2.c3 : ACode := (.seq (.seq (.region false [
 ⟨some 175, .mv (.tmp 19), none, [], []⟩,
 ⟨some 176, .mv (.tmp 20), none, [], []⟩,
 ⟨some 177, .bin .sub (.tmp 175) (.tmp 176), none, [], []⟩,
 ⟨some 24, .mv (.tmp 177), none, [], []⟩])
 (.ghost (.kill [19, 175, 176, 177])))
 (.seq (.seq (.seq (.region false [
 ⟨some 178, .mv (.tmp 20), none, [], []⟩,
 ⟨some 179, .mv (.tmp 2), none, [], []⟩,
 ⟨some 180, .bin .lss (.tmp 178) (.tmp 179), none, [], []⟩,
 ⟨some 181, .mv (.tmp 180), none, [], []⟩,
 ⟨some 182, .mv (.tmp 2), (some ((some 181), true)), [], []⟩,
 ⟨some 183, .mv (.tmp 24), (some ((some 181), true)), [], []⟩,
 ⟨some 184, .bin .lss (.tmp 182) (.tmp 183), (some ((some 181), true)), [], []⟩,
 ⟨some 185, .pick (.tmp 181) (.tmp 184) (.cst (.bool false)), none, [], []⟩])
 (.ghost (.kill [178, 179, 180, 181, 182, 183, 184])))
 (.seq (.cond (.tmp 185) (.seq (.region false [
   ⟨some 186, .mv (.tmp 0), none, [], []⟩,
   ⟨some 187, .mv (.tmp 20), none, [], []⟩,
   ⟨some 188, .mv (.tmp 2), none, [], []⟩,
   ⟨some 189, .mv (.tmp 24), none, [], []⟩,
   ⟨some 190, .mv (.tmp 4), none, [], []⟩,
   ⟨some 191, .call false i_Xq5 [(.tmp 186), (.tmp 187), (.tmp 188), (.tmp 189), (.tmp 190)], none, [], []⟩])
  (.ghost (.kill [2, 185, 186, 187, 188, 189, 190, 191])))
 .skip)
 (.ghost (.kill [2, 185]))))
 Xq2.c2))
def Xq2.c4 : ACode := (.ghost (.kill [21, 22, 151]))
def Xq2.b4 : ACode := (.seq (.seq (.seq (.region false [
 ⟨some 149, .mv (.tmp 20), none, [], []⟩,
 ⟨some 150, .mv (.tmp 21), none, [], []⟩,
 ⟨some 151, .bin .lss (.tmp 149) (.tmp 150), none, [], []⟩])
 (.ghost (.kill [149, 150])))
 (.cond (.tmp 151) .skip
 (.exit 8)))
 (.block 9 (.seq (.seq (.region false [
 ⟨some 152, .mv (.tmp 20), none, [], []⟩,
 ⟨some 153, .mv (.tmp 21), none, [], []⟩,
 ⟨some 154, .bin .add (.tmp 152) (.tmp 153), none, [], []⟩,
 ⟨some 155, .conv .u64 (.tmp 154), none, [], []⟩,
 ⟨some 156, .bin .shr (.tmp 155) (.cst (.int .u64 1)), none, [], []⟩,
 ⟨some 157, .conv .i64 (.tmp 156), none, [], []⟩,
 ⟨some 23, .mv (.tmp 157), none, [], []⟩])
 (.ghost (.kill [151, 152, 153, 154, 155, 156, 157])))
 (.seq (.seq (.region true [
 ⟨some 158, .mv (.tmp 4), none, [], [4]⟩,
 ⟨some 159, .mv (.tmp 0), none, [], [0]⟩,
 ⟨some 160, .mv (.tmp 22), none, [], [22]⟩,
 ⟨some 161, .mv (.tmp 23), none, [], [23]⟩,
 ⟨some 162, .bin .sub (.tmp 160) (.tmp 161), none, [2, 3], [160, 161]⟩,
 ⟨some 163, .iaddr 1 (.tmp 159) (.tmp 162), none, [1, 4], [159, 162]⟩,
 ⟨some 164, .load false 1 (.tmp 163), none, [5], [163]⟩,
 ⟨some 165, .mv (.tmp 0), none, [], [0]⟩,
 ⟨some 166, .mv (.tmp 23), none, [], [23]⟩,
 ⟨some 167, .iaddr 1 (.tmp 165) (.tmp 166), none, [7, 8], [165, 166]⟩,
 ⟨some 168, .load false 1 (.tmp 167), none, [9], [167]⟩,
 ⟨some 169, .callv true (.tmp 158) [(.tmp 164), (.tmp 168)], none, [0, 6, 10], [158, 164, 168]⟩,
 ⟨some 170, .bin .lss (.tmp 169) (.cst (.int .i64 0)), none, [11], [169]⟩,
 ⟨some 171, .un .not (.tmp 170), none, [12], [170]⟩])
 (.ghost (.kill [158, 159, 160, 161, 162, 163, 164, 165, 166, 167, 168, 169, 170])))
 (.cond (.tmp 171) (.seq (.region false [
   ⟨some 172, .mv (.tmp 23), none, [], []⟩,
   ⟨some 173, .bin .add (.tmp 172) (.cst (.int .i64 1)), none, [], []⟩,
   ⟨some 20, .mv (.tmp 173), none, [], []⟩])
  (.ghost (.kill [23, 171, 172, 173])))
 (.seq (.region false [
   ⟨some 174, .mv (.tmp 23), none, [], []⟩,
   ⟨some 21, .mv (.tmp 174), none, [], []⟩])
  (.ghost (.kill [23, 171, 174]))))))))
def Xq2.c5 : ACode := (.seq (.seq (.region false [
 ⟨some 147, .mv (.tmp 19), none, [], []⟩,
 ⟨some 148, .bin .sub (.tmp 147) (.cst (.int .i64 1)), none, [], []⟩,
 ⟨some 22, .mv (.tmp 148), none, [], []⟩])
 (.ghost (.kill [147, 148])))
 (.seq (.seq (.block 8 (.loop Xq2.b4))
 Xq2.c4)
 Xq2.c3))
def Xq2.c6 : ACode := (.seq (.seq (.region false [
 ⟨some 129, .mv (.tmp 1), none, [], []⟩,
 ⟨some 130, .mv (.tmp 3), none, [], []⟩,
 ⟨some 131, .bin .add (.tmp 129) (.tmp 130), none, [], []⟩,
 ⟨some 132, .conv .u64 (.tmp 131), none, [], []⟩,
 ⟨some 133, .bin .shr (.tmp 132) (.cst (.int .u64 1)), none, [], []⟩,
 ⟨some 134, .conv .i64 (.tmp 133), none, [], []⟩,
 ⟨some 18, .mv (.tmp 134), none, [], []⟩])
 (.ghost (.kill [80, 129, 130, 131, 132, 133, 134])))
 (.seq (.seq (.region false [
 ⟨some 135, .mv (.tmp 18), none, [], []⟩,
 ⟨some 136, .mv (.tmp 2), none, [], []⟩,
 ⟨some 137, .bin .add (.tmp 135) (.tmp 136), none, [], []⟩,
 ⟨some 19, .mv (.tmp 137), none, [], []⟩])
 (.ghost (.kill [135, 136, 137])))
 (.seq (.seq (.region false [
 ⟨some 20, .mv (.cst (.int .i64 0)), none, [], []⟩,
 ⟨some 21, .mv (.cst (.int .i64 0)), none, [], []⟩])
 (.ghost (.kill [20, 21])))
 (.seq (.seq (.seq (.region false [
 ⟨some 138, .mv (.tmp 2), none, [], []⟩,
 ⟨some 139, .mv (.tmp 18), none, [], []⟩,
 ⟨some 140, .bin .gtr (.tmp 138) (.tmp 139), none, [], []⟩])
 (.ghost (.kill [138, 139])))
 (.cond (.tmp 140) (.seq (.seq (.region false [
   ⟨some 141, .mv (.tmp 19), none, [], []⟩,
   ⟨some 142, .mv (.tmp 3), none, [], []⟩,
   ⟨some 143, .bin .sub (.tmp 141) (.tmp 142), none, [], []⟩,
   ⟨some 20, .mv (.tmp 143), none, [], []⟩])
  (.ghost (.kill [140, 141, 142, 143])))
  (.seq (.region false [
   ⟨some 144, .mv (.tmp 18), none, [], []⟩,
   ⟨some 21, .mv (.tmp 144), none, [], []⟩])
  (.ghost (.kill [144]))))
 (.seq (.seq (.region false [
   ⟨some 145, .mv (.tmp 1), none, [], []⟩,
   ⟨some 20, .mv (.tmp 145), none, [], []⟩])
  (.ghost (.kill [140, 145])))
  (.seq (.region false [
   ⟨some 146, .mv (.tmp 2), none, [], []⟩,
   ⟨some 21, .mv (.tmp 146), none, [], []⟩])
  (.ghost (.kill [146]))))))
 Xq2.c5))))
def Xq2.c7 : ACode := (.ghost (.kill [0, 14, 17, 110]))
def Xq2.b3 : ACode := (.seq (.seq (.seq (.region false [
 ⟨some 108, .mv (.tmp 17), none, [], []⟩,
 ⟨some 109, .mv (.tmp 14), none, [], []⟩,
 ⟨some 110, .bin .gtr (.tmp 108) (.tmp 109), none, [], []⟩])
 (.ghost (.kill [108, 109])))
 (.cond (.tmp 110) .skip
 (.exit 6)))
 (.seq (.block 7 (.seq (.region true [
 ⟨some 113, .mv (.tmp 0), none, [], [0]⟩,
 ⟨some 114, .mv (.tmp 17), none, [], [17]⟩,
 ⟨some 115, .mv (.tmp 0), none, [], [0]⟩,
 ⟨some 116, .mv (.tmp 17), none, [], [17]⟩,
 ⟨some 117, .bin .sub (.tmp 116) (.cst (.int .i64 1)), none, [3], [116]⟩,
 ⟨some 118, .mv (.tmp 0), none, [], [0]⟩,
 ⟨some 119, .mv (.tmp 17), none, [], [17]⟩,
 ⟨some 120, .bin .sub (.tmp 119) (.cst (.int .i64 1)), none, [6], [119]⟩,
 ⟨some 121, .iaddr 1 (.tmp 118) (.tmp 120), none, [5, 7], [118, 120]⟩,
 ⟨some 122, .load false 1 (.tmp 121), none, [8], [121]⟩,
 ⟨some 123, .mv (.tmp 0), none, [], [0]⟩,
 ⟨some 124, .mv (.tmp 17), none, [], [17]⟩,
 ⟨some 125, .iaddr 1 (.tmp 123) (.tmp 124), none, [10, 11], [123, 124]⟩,
 ⟨some 126, .load false 1 (.tmp 125), none, [12], [125]⟩,
 ⟨some 127, .iaddr 1 (.tmp 113) (.tmp 114), none, [0, 1, 0, 1, 5, 6, 7, 8, 9, 13], [113, 114]⟩,
 ⟨none, .store 1 (.tmp 127) (.tmp 122), none, [14, 9, 0, 1, 5, 6, 7, 8, 9, 13], [127, 122]⟩,
 ⟨some 128, .iaddr 1 (.tmp 115) (.tmp 117), none, [2, 4, 0, 1, 2, 3, 4, 5, 6, 7, 8, 9, 10, 11, 12, 13, 14, 15], [115, 117]⟩,
 ⟨none, .store 1 (.tmp 128) (.tmp 126), none, [16, 13, 15, 0, 1, 2, 3, 4, 5, 6, 7, 8, 9, 10, 11, 12, 13, 14, 15], [128, 126]⟩])
 (.ghost (.kill [110, 113, 114, 115, 116, 117, 118, 119, 120, 121, 122, 123, 124, 125, 126, 127, 128]))))
 (.seq (.region false [
 ⟨some 111, .mv (.tmp 17), none, [], []⟩,
 ⟨some 112, .bin .sub (.tmp 111) (.cst (.int .i64 1)), none, [], []⟩,
 ⟨some 17, .mv (.tmp 112), none, [], []⟩])
 (.ghost (.kill [111, 112])))))
def Xq2.c8 : ACode := (.seq (.seq (.seq (.region false [
 ⟨some 107, .mv (.tmp 2), none, [], []⟩,
 ⟨some 17, .mv (.tmp 107), none, [], []⟩])
 (.ghost (.kill [2, 107])))
 (.seq (.block 6 (.loop Xq2.b3))
 Xq2.c7))
 .ret)
def Xq2.b2 : ACode := (.seq (.seq (.seq (.region false [
 ⟨some 83, .mv (.tmp 14), none, [], []⟩,
 ⟨some 84, .mv (.tmp 15), none, [], []⟩,
 ⟨some 85, .bin .lss (.tmp 83) (.tmp 84), none, [], []⟩])
 (.ghost (.kill [83, 84])))
 (.cond (.tmp 85) .skip
 (.exit 4)))
 (.block 5 (.seq (.seq (.region false [
 ⟨some 86, .mv (.tmp 14), none, [], []⟩,
 ⟨some 87, .mv (.tmp 15), none, [], []⟩,
 ⟨some 88, .bin .add (.tmp 86) (.tmp 87), none, [], []⟩,
 ⟨some 89, .conv .u64 (.tmp 88), none, [], []⟩,
 ⟨some 90, .bin .shr (.tmp 89) (.cst (.int .u64 1)), none, [], []⟩,
 ⟨some 91, .conv .i64 (.tmp 90), none, [], []⟩,
 ⟨some 16, .mv (.tmp 91), none, [], []⟩])
 (.ghost (.kill [85, 86, 87, 88, 89, 90, 91])))
 (.seq (.seq (.region true [
 ⟨some 92, .mv (.tmp 4), none, [], [4]⟩,
 ⟨some 93, .mv (.tmp 0), none, [], [0]⟩,
 ⟨some 94, .mv (.tmp 2), none, [], [2]⟩,
 ⟨some 95, .iaddr 1 (.tmp 93) (.tmp 94), none, [1, 2], [93, 94]⟩,
 ⟨some 96, .load false 1 (.tmp 95), none, [3], [95]⟩,
 ⟨some 97, .mv (.tmp 0), none, [], [0]⟩,
 ⟨some 98, .mv (.tmp 16), none, [], [16]⟩,
 ⟨some 99, .iaddr 1 (.tmp 97) (.tmp 98), none, [5, 6], [97, 98]⟩,
 ⟨some 100, .load false 1 (.tmp 99), none, [7], [99]⟩,
 ⟨some 101, .callv true (.tmp 92) [(.tmp 96), (.tmp 100)], none, [0, 4, 8], [92, 96, 100]⟩,
 ⟨some 102, .bin .lss (.tmp 101) (.cst (.int .i64 0)), none, [9], [101]⟩,
 ⟨some 103, .un .not (.tmp 102), none, [10], [102]⟩])
 (.ghost (.kill [92, 93, 94, 95, 96, 97, 98, 99, 100, 101, 102])))
 (.cond (.tmp 103) (.seq (.region false [
   ⟨some 104, .mv (.tmp 16), none, [], []⟩,
   ⟨some 105, .bin .add (.tmp 104) (.cst (.int .i64 1)), none, [], []⟩,
   ⟨some 14, .mv (.tmp 105), none, [], []⟩])
  (.ghost (.kill [16, 103, 104, 105])))
 (.seq (.region false [
   ⟨some 106, .mv (.tmp 16), none, [], []⟩,
   ⟨some 15, .mv (.tmp 106), none, [], []⟩])
  (.ghost (.kill [16, 103, 106]))))))))
def Xq2.c9 : ACode := (.seq (.seq (.seq (.region false [
 ⟨some 77, .mv (.tmp 3), none, [], []⟩,
 ⟨some 78, .mv (.tmp 2), none, [], []⟩,
 ⟨some 79, .bin .sub (.tmp 77) (.tmp 78), none, [], []⟩,
 ⟨some 80, .bin .eql (.tmp 79) (.cst (.int .i64 1)), none, [], []⟩])
 (.ghost (.kill [28, 77, 78, 79])))
 (.cond (.tmp 80) (.seq (.seq (.region false [
   ⟨some 81, .mv (.tmp 1), none, [], []⟩,
   ⟨some 14, .mv (.tmp 81), none, [], []⟩])
  (.ghost (.kill [1, 3, 80, 81])))
  (.seq (.seq (.region false [
   ⟨some 82, .mv (.tmp 2), none, [], []⟩,
   ⟨some 15, .mv (.tmp 82), none, [], []⟩])
  (.ghost (.kill [82])))
  (.seq (.seq (.block 4 (.loop Xq2.b2))
  (.ghost (.kill [4, 15, 85])))
  Xq2.c8)))
 .skip))
 Xq2.c6)
def Xq2.c10 : ACode := (.ghost (.kill [0, 10, 13, 58]))
def Xq2.b1 : ACode := (.seq (.seq (.seq (.region false [
 ⟨some 55, .mv (.tmp 13), none, [], []⟩,
 ⟨some 56, .mv (.tmp 10), none, [], []⟩,
 ⟨some 57, .bin .sub (.tmp 56) (.cst (.int .i64 1)), none, [], []⟩,
 ⟨some 58, .bin .lss (.tmp 55) (.tmp 57), none, [], []⟩])
 (.ghost (.kill [55, 56, 57])))
 (.cond (.tmp 58) .skip
 (.exit 2)))
 (.seq (.block 3 (.seq (.region true [
 ⟨some 61, .mv (.tmp 0), none, [], [0]⟩,
 ⟨some 62, .mv (.tmp 13), none, [], [13]⟩,
 ⟨some 63, .mv (.tmp 0), none, [], [0]⟩,
 ⟨some 64, .mv (.tmp 13), none, [], [13]⟩,
 ⟨some 65, .bin .add (.tmp 64) (.cst (.int .i64 1)), none, [3], [64]⟩,
 ⟨some 66, .mv (.tmp 0), none, [], [0]⟩,
 ⟨some 67, .mv (.tmp 13), none, [], [13]⟩,
 ⟨some 68, .bin .add (.tmp 67) (.cst (.int .i64 1)), none, [6], [67]⟩,
 ⟨some 69, .iaddr 1 (.tmp 66) (.tmp 68), none, [5, 7], [66, 68]⟩,
 ⟨some 70, .load false 1 (.tmp 69), none, [8], [69]⟩,
 ⟨some 71, .mv (.tmp 0), none, [], [0]⟩,
 ⟨some 72, .mv (.tmp 13), none, [], [13]⟩,
 ⟨some 73, .iaddr 1 (.tmp 71) (.tmp 72), none, [10, 11], [71, 72]⟩,
 ⟨some 74, .load false 1 (.tmp 73), none, [12], [73]⟩,
 ⟨some 75, .iaddr 1 (.tmp 61) (.tmp 62), none, [0, 1, 0, 1, 5, 6, 7, 8, 9, 13], [61, 62]⟩,
 ⟨none, .store 1 (.tmp 75) (.tmp 70), none, [14, 9, 0, 1, 5, 6, 7, 8, 9, 13], [75, 70]⟩,
 ⟨some 76, .iaddr 1 (.tmp 63) (.tmp 65), none, [2, 4, 0, 1, 2, 3, 4, 5, 6, 7, 8, 9, 10, 11, 12, 13, 14, 15], [63, 65]⟩,
 ⟨none, .store 1 (.tmp 76) (.tmp 74), none, [16, 13, 15, 0, 1, 2, 3, 4, 5, 6, 7, 8, 9, 10, 11, 12, 13, 14, 15], [76, 74]⟩])
 (.ghost (.kill [58, 61, 62, 63, 64, 65, 66, 67, 68, 69, 70, 71, 72, 73, 74, 75, 76]))))
 (.seq (.region false [
 ⟨some 59, .mv (.tmp 13), none, [], []⟩,
 ⟨some 60, .bin .add (.tmp 59) (.cst (.int .i64 1)), none, [], []⟩,
 ⟨some 13, .mv (.tmp 60), none, [], []⟩])
 (.ghost (.kill [59, 60])))))
def Xq2.c11 : ACode := (.seq (.seq (.seq (.region false [
 ⟨some 54, .mv (.tmp 1), none, [], []⟩,
 ⟨some 13, .mv (.tmp 54), none, [], []⟩])
 (.ghost (.kill [1, 54])))
 (.seq (.block 2 (.loop Xq2.b1))
 Xq2.c10))
 .ret)
def Xq2.b0 : ACode := (.seq (.seq (.seq (.region false [
 ⟨some 31, .mv (.tmp 10), none, [], []⟩,
 ⟨some 32, .mv (.tmp 11), none, [], []⟩,
 ⟨some 33, .bin .lss (.tmp 31) (.tmp 32), none, [], []⟩])
 (.ghost (.kill [31, 32])))
 (.cond (.tmp 33) .skip
 (.exit 0)))
 (.block 1 (.seq (.seq (.region false [
 ⟨some 34, .mv (.tmp 10), none, [], []⟩,
 ⟨some 35, .mv (.tmp 11), none, [], []⟩,
 ⟨some 36, .bin .add (.tmp 34) (.tmp 35), none, [], []⟩,
 ⟨some 37, .conv .u64 (.tmp 36), none, [], []⟩,
 ⟨some 38, .bin .shr (.tmp 37) (.cst (.int .u64 1)), none, [], []⟩,
 ⟨some 39, .conv .i64 (.tmp 38), none, [], []⟩,
 ⟨some 12, .mv (.tmp 39), none, [], []⟩])
 (.ghost (.kill [33, 34, 35, 36, 37, 38, 39])))
 (.seq (.seq (.region true [
 ⟨some 40, .mv (.tmp 4), none, [], [4]⟩,
 ⟨some 41, .mv (.tmp 0), none, [], [0]⟩,
 ⟨some 42, .mv (.tmp 12), none, [], [12]⟩,
 ⟨some 43, .iaddr 1 (.tmp 41) (.tmp 42), none, [1, 2], [41, 42]⟩,
 ⟨some 44, .load false 1 (.tmp 43), none, [3], [43]⟩,
 ⟨some 45, .mv (.tmp 0), none, [], [0]⟩,
 ⟨some 46, .mv (.tmp 1), none, [], [1]⟩,
 ⟨some 47, .iaddr 1 (.tmp 45) (.tmp 46), none, [5, 6], [45, 46]⟩,
 ⟨some 48, .load false 1 (.tmp 47), none, [7], [47]⟩,
 ⟨some 49, .callv true (.tmp 40) [(.tmp 44), (.tmp 48)], none, [0, 4, 8], [40, 44, 48]⟩,
 ⟨some 50, .bin .lss (.tmp 49) (.cst (.int .i64 0)), none, [9], [49]⟩])
 (.ghost (.kill [40, 41, 42, 43, 44, 45, 46, 47, 48, 49])))
 (.cond (.tmp 50) (.seq (.region false [
   ⟨some 51, .mv (.tmp 12), none, [], []⟩,
   ⟨some 52, .bin .add (.tmp 51) (.cst (.int .i64 1)), none, [], []⟩,
   ⟨some 10, .mv (.tmp 52), none, [], []⟩])
  (.ghost (.kill [12, 50, 51, 52])))
 (.seq (.region false [
   ⟨some 53, .mv (.tmp 12), none, [], []⟩,
   ⟨some 11, .mv (.tmp 53), none, [], []⟩])
  (.ghost (.kill [12, 50, 53]))))))))
def Xq2.main : ACode := (.seq (.seq (.seq (.region false [
 ⟨some 25, .mv (.tmp 2), none, [], []⟩,
 ⟨some 26, .mv (.tmp 1), none, [], []⟩,
 ⟨some 27, .bin .sub (.tmp 25) (.tmp 26), none, [], []⟩,
 ⟨some 28, .bin .eql (.tmp 27) (.cst (.int .i64 1)), none, [], []⟩])
 (.ghost (.kill [25, 26, 27])))
 (.cond (.tmp 28) (.seq (.seq (.region false [
   ⟨some 29, .mv (.tmp 2), none, [], []⟩,
   ⟨some 10, .mv (.tmp 29), none, [], []⟩])
  (.ghost (.kill [2, 28, 29])))
  (.seq (.seq (.region false [
   ⟨some 30, .mv (.tmp 3), none, [], []⟩,
   ⟨some 11, .mv (.tmp 30), none, [], []⟩])
  (.ghost (.kill [3, 30])))
  (.seq (.seq (.block 0 (.loop Xq2.b0))
  (.ghost (.kill [4, 11, 33])))
  Xq2.c11)))
 .skip))
 Xq2.c9)
def Xq2.k4 : List Item := [.inBlock 8, .code Xq2.c4, .code Xq2.c3]
def Xq2.k3 : List Item := [.inBlock 6, .code Xq2.c7, .code .ret, .code Xq2.c6]
def Xq2.k2 : List Item := [.inBlock 4, .code (.ghost (.kill [4, 15, 85])), .code Xq2.c8, .code Xq2.c6]
def Xq2.k1 : List Item := [.inBlock 2, .code Xq2.c10, .code .ret, .code Xq2.c9]
def Xq2.k0 : List Item := [.inBlock 0, .code (.ghost (.kill [4, 11, 33])), .code Xq2.c11, .code Xq2.c9]
def Xq2 : AFunc := ⟨220, [], Xq2.main, false⟩
def Xq8.c0 : ACode := (.seq (.seq (.seq (.region false [
 ⟨some 34, .mv (.tmp 0), none, [], []⟩,
 ⟨some 35, .len .sl (.tmp 34), none, [], []⟩,
 ⟨some 36, .mv (.tmp 1), none, [], []⟩,
 ⟨some 37, .len .sl (.tmp 36), none, [], []⟩,
 ⟨some 38, .bin .lss (.tmp 35) (.tmp 37), none, [], []⟩])
 (.ghost (.kill [0, 1, 34, 35, 36, 37])))
 (.cond (.tmp 38) (.seq (.region false [
   ⟨some 6, .mv (.cst (.int .i64 (-1))), none, [], []⟩])
  .ret)
 .skip))
 (.seq (.region false [
 ⟨some 6, .mv (.cst (.int .i64 0)), none, [], []⟩])
 .ret))
def Xq8.c1 : ACode := (.ghost (.kill [2, 11, 12, 13, 14]))
def Xq8.b0 : ACode := (.seq (.region false [
 ⟨some 14, .bin .lss (.tmp 13) (.tmp 12), none, [], []⟩])
 (.seq (.cond (.tmp 14) .skip
 (.exit 0))
 (.seq (.trunc (.seq (.block 1 (.seq (.seq (.region false [
 ⟨some 15, .mv (.tmp 13), none, [], []⟩,
 ⟨some 16, .iaddr 3 (.tmp 11) (.tmp 13), none, [], []⟩,
 ⟨some 17, .load true 3 (.tmp 16), none, [], []⟩,
 ⟨some 8, .alloc [(.int .i64 0), (.int .i64 0), (.str ⟨#[]⟩)], none, [], []⟩,
 ⟨some 7, .mv (.tmp 15), none, [], []⟩,
 ⟨none, .store 3 (.tmp 8) (.tmp 17), none, [], []⟩])
 (.ghost (.kill [14, 15, 16, 17])))
 (.seq (.seq (.seq (.region false [
 ⟨some 18, .mv (.tmp 7), none, [], []⟩,
 ⟨some 19, .mv (.tmp 1), none, [], []⟩,
 ⟨some 20, .len .sl (.tmp 19), none, [], []⟩,
 ⟨some 21, .bin .geq (.tmp 18) (.tmp 20), none, [], []⟩])
 (.ghost (.kill [18, 19, 20])))
 (.cond (.tmp 21) (.seq (.region false [
   ⟨some 6, .mv (.cst (.int .i64 1)), none, [], []⟩])
  .ret)
 .skip))
 (.seq (.seq (.region false [
 ⟨some 22, .mv (.tmp 1), none, [], []⟩,
 ⟨some 23, .mv (.tmp 7), none, [], []⟩,
 ⟨some 24, .iaddr 3 (.tmp 22) (.tmp 23), none, [], []⟩,
 ⟨some 25, .load true 3 (.tmp 24), none, [], []⟩,
 ⟨some 9, .alloc [(.int .i64 0), (.int .i64 0), (.str ⟨#[]⟩)], none, [], []⟩,
 ⟨none, .store 3 (.tmp 9) (.tmp 25), none, [], []⟩])
 (.ghost (.kill [7, 21, 22, 23, 24, 25])))
 (.seq (.seq (.region false [
 ⟨some 26, .mv (.tmp 2), none, [], []⟩,
 ⟨some 27, .load true 3 (.tmp 8), none, [], []⟩,
 ⟨some 28, .load true 3 (.tmp 9), none, [], []⟩,
 ⟨some 29, .callv true (.tmp 26) [(.tmp 27), (.tmp 28)], none, [], []⟩,
 ⟨some 10, .mv (.tmp 29), none, [], []⟩])
 (.ghost (.kill [8, 9, 26, 27, 28, 29])))
 (.seq (.seq (.region false [
 ⟨some 30, .mv (.tmp 10), none, [], []⟩,
 ⟨some 31, .bin .neq (.tmp 30) (.cst (.int .i64 0)), none, [], []⟩])
 (.ghost (.kill [30])))
 (.cond (.tmp 31) (.seq (.region false [
   ⟨some 32, .mv (.tmp 10), none, [], []⟩,
   ⟨some 6, .mv (.tmp 32), none, [], []⟩])
  .ret)
 .skip)))))))
 (.ghost (.kill [10, 31]))))
 (.seq (.region false [
 ⟨some 33, .bin .add (.tmp 13) (.cst (.int .i64 1)), none, [], []⟩,
 ⟨some 13, .mv (.tmp 33), none, [], []⟩])
 (.ghost (.kill [33]))))))
def Xq8.main : ACode := (.seq (.seq (.region false [
 ⟨some 6, .mv (.cst (.int .i64 0)), none, [], []⟩])
 (.ghost (.kill [6])))
 (.seq (.seq (.region false [
 ⟨some 11, .mv (.tmp 0), none, [], []⟩,
 ⟨some 12, .len .sl (.tmp 11), none, [], []⟩,
 ⟨some 13, .mv (.cst (.int .i64 0)), none, [], []⟩])
 (.seq (.block 0 (.loop Xq8.b0))
 Xq8.c1))
 Xq8.c0))
def Xq8.k0 : List Item := [.inBlock 0, .code Xq8.c1, .code Xq8.c0]
def Xq8 : AFunc := ⟨39, [.tmp 6], Xq8.main, false⟩
def Xq9.c0 : ACode := (.seq (.region false [
 ⟨some 4, .mv (.cst (.int .i64 (-1))), none, [], []⟩])
 .ret)
def Xq9.c1 : ACode := (.ghost (.kill [0, 1, 7, 8, 9]))
def Xq9.b0 : ACode := (.seq (.region false [
 ⟨some 9, .bin .lss (.tmp 8) (.tmp 7), none, [], []⟩])
 (.seq (.cond (.tmp 9) .skip
 (.exit 0))
 (.seq (.seq (.block 1 (.seq (.seq (.region false [
 ⟨some 10, .mv (.tmp 8), none, [], []⟩,
 ⟨some 5, .mv (.tmp 10), none, [], []⟩])
 (.ghost (.kill [9, 10])))
 (.seq (.seq (.region false [
 ⟨some 11, .mv (.tmp 1), none, [], []⟩,
 ⟨some 12, .mv (.tmp 0), none, [], []⟩,
 ⟨some 13, .mv (.tmp 5), none, [], []⟩,
 ⟨some 14, .iaddr 1 (.tmp 12) (.tmp 13), none, [], []⟩,
 ⟨some 15, .load false 1 (.tmp 14), none, [], []⟩,
 ⟨some 16, .callv true (.tmp 11) [(.tmp 15)], none, [], []⟩])
 (.ghost (.kill [11, 12, 13, 14, 15])))
 (.cond (.tmp 16) (.seq (.region false [
   ⟨some 17, .mv (.tmp 5), none, [], []⟩,
   ⟨some 4, .mv (.tmp 17), none, [], []⟩])
  .ret)
 .skip))))
 (.ghost (.kill [5, 16])))
 (.seq (.region false [
 ⟨some 18, .bin .add (.tmp 8) (.cst (.int .i64 1)), none, [], []⟩,
 ⟨some 8, .mv (.tmp 18), none, [], []⟩])
 (.ghost (.kill [18]))))))
def Xq9.main : ACode := (.seq (.seq (.region false [
 ⟨some 4, .mv (.cst (.int .i64 0)), none, [], []⟩])
 (.ghost (.kill [4])))
 (.seq (.seq (.seq (.region false [
 ⟨some 6, .mv (.tmp 0), none, [], []⟩,
 ⟨some 7, .len .sl (.tmp 6), none, [], []⟩,
 ⟨some 8, .mv (.cst (.int .i64 0)), none, [], []⟩])
 (.ghost (.kill [6])))
 (.seq (.block 0 (.loop Xq9.b0))
 Xq9.c1))
 Xq9.c0))
def Xq9.k0 : List Item := [.inBlock 0, .code Xq9.c1, .code Xq9.c0]
def Xq9 : AFunc := ⟨19, [.tmp 4], Xq9.main, false⟩
def Xq10.main : ACode := (.seq (.seq (.region false [
 ⟨some 2, .mv (.cst .nils), none, [], []⟩])
 (.ghost (.kill [2])))
 (.seq (.seq (.seq (.region false [
 ⟨some 3, .mv (.tmp 0), none, [], []⟩,
 ⟨some 4, .eqnil false .sl (.tmp 3), none, [], []⟩])
 (.ghost (.kill [3])))
 (.cond (.tmp 4) (.seq (.region false [
   ⟨some 2, .mv (.cst .nils), none, [], []⟩])
  .ret)
 .skip))
 (.seq (.region false [
 ⟨some 5, .bslice 3 0 [(.int .i64 0), (.int .i64 0), (.str ⟨#[]⟩)] [], none, [], []⟩,
 ⟨some 6, .mv (.tmp 0), none, [], []⟩,
 ⟨some 7, .append 3 32 (.tmp 5) (.tmp 6), none, [], []⟩,
 ⟨some 2, .mv (.tmp 7), none, [], []⟩])
 .ret)))
def Xq10 : AFunc := ⟨8, [.tmp 2], Xq10.main, false⟩
def Xq11.c0 : ACode := (.ghost (.kill [0, 5, 6, 7, 8]))
def Xq11.b0 : ACode := (.seq (.region false [
 ⟨some 8, .bin .lss (.tmp 7) (.tmp 6), none, [], []⟩])
 (.seq (.cond (.tmp 8) .skip
 (.exit 0))
 (.seq (.trunc (.seq (.block 1 (.seq (.seq (.region false [
 ⟨some 9, .iaddr 1 (.tmp 5) (.tmp 7), none, [], []⟩,
 ⟨some 10, .load false 1 (.tmp 9), none, [], []⟩,
 ⟨some 4, .mv (.tmp 10), none, [], []⟩])
 (.ghost (.kill [8, 9, 10])))
 (.seq (.seq (.region false [
 ⟨some 11, .mv (.tmp 0), none, [], []⟩,
 ⟨some 12, .mv (.tmp 4), none, [], []⟩,
 ⟨some 13, .callv false (.tmp 11) [(.tmp 12)], none, [], []⟩,
 ⟨some 14, .un .not (.tmp 13), none, [], []⟩])
 (.ghost (.kill [4, 11, 12, 13])))
 (.cond (.tmp 14) .ret
 .skip))))
 (.ghost (.kill [14]))))
 (.seq (.region false [
 ⟨some 15, .bin .add (.tmp 7) (.cst (.int .i64 1)), none, [], []⟩,
 ⟨some 7, .mv (.tmp 15), none, [], []⟩])
 (.ghost (.kill [15]))))))
def Xq11.main : ACode := (.seq (.region false [
 ⟨some 5, .load false 1 (.tmp 1), none, [], []⟩,
 ⟨some 6, .len .sl (.tmp 5), none, [], []⟩,
 ⟨some 7, .mv (.cst (.int .i64 0)), none, [], []⟩])
 (.seq (.block 0 (.loop Xq11.b0))
 Xq11.c0))
def Xq11.k0 : List Item := [.inBlock 0, .code Xq11.c0]
def Xq11 : AFunc := ⟨16, [], Xq11.main, false⟩
def Xq26.main : ACode := (.seq (.seq (.region false [
 ⟨some 2, .mv (.cst (.bool false)), none, [], []⟩])
 (.ghost (.kill [2])))
 (.seq (.region false [
 ⟨some 3, .mv (.tmp 0), none, [], []⟩,
 ⟨some 4, .mv (.tmp 0), none, [], []⟩,
 ⟨some 5, .bin .neq (.tmp 3) (.tmp 4), none, [], []⟩,
 ⟨some 2, .mv (.tmp 5), none, [], []⟩])
 .ret))
def Xq26 : AFunc := ⟨6, [.tmp 2], Xq26.main, false⟩
def Xq16.main : ACode := (.seq (.seq (.region false [
 ⟨some 2, .mv (.cst (.bool false)), none, [], []⟩])
 (.ghost (.kill [2])))
 (.seq (.region false [
 ⟨some 3, .mv (.tmp 0), none, [], []⟩,
 ⟨some 4, .mv (.tmp 0), none, [], []⟩,
 ⟨some 5, .bin .neq (.tmp 3) (.tmp 4), none, [], []⟩,
 ⟨some 2, .mv (.tmp 5), none, [], []⟩])
 .ret))
def Xq16 : AFunc := ⟨6, [.tmp 2], Xq16.main, false⟩
def Xq5.c0 : ACode := (.seq (.region false [
 ⟨some 50, .mv (.tmp 0), none, [], []⟩,
 ⟨some 51, .mv (.tmp 2), none, [], []⟩,
 ⟨some 52, .mv (.tmp 10), none, [], []⟩,
 ⟨some 53, .bin .sub (.tmp 51) (.tmp 52), none, [], []⟩,
 ⟨some 54, .mv (.tmp 2), none, [], []⟩,
 ⟨some 55, .mv (.tmp 10), none, [], []⟩,
 ⟨some 56, .mv (.tmp 4), none, [], []⟩,
 ⟨some 57, .call false i_Xq1 [(.tmp 50), (.tmp 53), (.tmp 54), (.tmp 55), (.tmp 56)], none, [], []⟩])
 (.ghost (.kill [0, 2, 4, 10, 50, 51, 52, 53, 54, 55, 56, 57])))
def Xq5.b0 : ACode := (.seq (.seq (.seq (.region false [
 ⟨some 18, .mv (.tmp 10), none, [], []⟩,
 ⟨some 19, .mv (.tmp 11), none, [], []⟩,
 ⟨some 20, .bin .neq (.tmp 18) (.tmp 19), none, [], []⟩])
 (.ghost (.kill [18, 19])))
 (.cond (.tmp 20) .skip
 (.exit 0)))
 (.trunc (.block 1 (.seq (.seq (.region false [
 ⟨some 21, .mv (.tmp 10), none, [], []⟩,
 ⟨some 22, .mv (.tmp 11), none, [], []⟩,
 ⟨some 23, .bin .gtr (.tmp 21) (.tmp 22), none, [], []⟩])
 (.ghost (.kill [20, 21, 22])))
 (.cond (.tmp 23) (.seq (.seq (.region false [
   ⟨some 24, .mv (.tmp 0), none, [], []⟩,
   ⟨some 25, .mv (.tmp 2), none, [], []⟩,
   ⟨some 26, .mv (.tmp 10), none, [], []⟩,
   ⟨some 27, .bin .sub (.tmp 25) (.tmp 26), none, [], []⟩,
   ⟨some 28, .mv (.tmp 2), none, [], []⟩,
   ⟨some 29, .mv (.tmp 11), none, [], []⟩,
   ⟨some 30, .mv (.tmp 4), none, [], []⟩,
   ⟨some 31, .call false i_Xq1 [(.tmp 24), (.tmp 27), (.tmp 28), (.tmp 29), (.tmp 30)], none, [], []⟩])
  (.ghost (.kill [23, 24, 25, 26, 27, 28, 29, 30, 31])))
  (.seq (.region false [
   ⟨some 32, .mv (.tmp 10), none, [], []⟩,
   ⟨some 33, .mv (.tmp 11), none, [], []⟩,
   ⟨some 34, .bin .sub (.tmp 32) (.tmp 33), none, [], []⟩,
   ⟨some 10, .mv (.tmp 34), none, [], []⟩])
  (.ghost (.kill [32, 33, 34]))))
 (.seq (.seq (.region false [
   ⟨some 35, .mv (.tmp 0), none, [], []⟩,
   ⟨some 36, .mv (.tmp 2), none, [], []⟩,
   ⟨some 37, .mv (.tmp 10), none, [], []⟩,
   ⟨some 38, .bin .sub (.tmp 36) (.tmp 37), none, [], []⟩,
   ⟨some 39, .mv (.tmp 2), none, [], []⟩,
   ⟨some 40, .mv (.tmp 11), none, [], []⟩,
   ⟨some 41, .bin .add (.tmp 39) (.tmp 40), none, [], []⟩,
   ⟨some 42, .mv (.tmp 10), none, [], []⟩,
   ⟨some 43, .bin .sub (.tmp 41) (.tmp 42), none, [], []⟩,
   ⟨some 44, .mv (.tmp 10), none, [], []⟩,
   ⟨some 45, .mv (.tmp 4), none, [], []⟩,
   ⟨some 46, .call false i_Xq1 [(.tmp 35), (.tmp 38), (.tmp 43), (.tmp 44), (.tmp 45)], none, [], []⟩])
  (.ghost (.kill [23, 35, 36, 37, 38, 39, 40, 41, 42, 43, 44, 45, 46])))
  (.seq (.region false [
   ⟨some 47, .mv (.tmp 11), none, [], []⟩,
   ⟨some 48, .mv (.tmp 10), none, [], []⟩,
   ⟨some 49, .bin .sub (.tmp 47) (.tmp 48), none, [], []⟩,
   ⟨some 11, .mv (.tmp 49), none, [], []⟩])
  (.ghost (.kill [47, 48, 49])))))))))
def Xq5.main : ACode := (.seq (.seq (.region false [
 ⟨some 12, .mv (.tmp 2), none, [], []⟩,
 ⟨some 13, .mv (.tmp 1), none, [], []⟩,
 ⟨some 14, .bin .sub (.tmp 12) (.tmp 13), none, [], []⟩,
 ⟨some 10, .mv (.tmp 14), none, [], []⟩])
 (.ghost (.kill [1, 12, 13, 14])))
 (.seq (.seq (.region false [
 ⟨some 15, .mv (.tmp 3), none, [], []⟩,
 ⟨some 16, .mv (.tmp 2), none, [], []⟩,
 ⟨some 17, .bin .sub (.tmp 15) (.tmp 16), none, [], []⟩,
 ⟨some 11, .mv (.tmp 17), none, [], []⟩])
 (.ghost (.kill [3, 15, 16, 17])))
 (.seq (.seq (.block 0 (.loop Xq5.b0))
 (.ghost (.kill [11, 20])))
 Xq5.c0)))
def Xq5.k0 : List Item := [.inBlock 0, .code (.ghost (.kill [11, 20])), .code Xq5.c0]
def Xq5 : AFunc := ⟨58, [], Xq5.main, false⟩
def Xq1.c0 : ACode := (.ghost (.kill [0, 1, 2, 3, 10, 13]))
def Xq1.b0 : ACode := (.seq (.seq (.seq (.region false [
 ⟨some 11, .mv (.tmp 10), none, [], []⟩,
 ⟨some 12, .mv (.tmp 3), none, [], []⟩,
 ⟨some 13, .bin .lss (.tmp 11) (.tmp 12), none, [], []⟩])
 (.ghost (.kill [11, 12])))
 (.cond (.tmp 13) .skip
 (.exit 0)))
 (.seq (.block 1 (.seq (.region true [
 ⟨some 16, .mv (.tmp 0), none, [], [0]⟩,
 ⟨some 17, .mv (.tmp 1), none, [], [1]⟩,
 ⟨some 18, .mv (.tmp 10), none, [], [10]⟩,
 ⟨some 19, .bin .add (.tmp 17) (.tmp 18), none, [1, 2], [17, 18]⟩,
 ⟨some 20, .mv (.tmp 0), none, [], [0]⟩,
 ⟨some 21, .mv (.tmp 2), none, [], [2]⟩,
 ⟨some 22, .mv (.tmp 10), none, [], [10]⟩,
 ⟨some 23, .bin .add (.tmp 21) (.tmp 22), none, [5, 6], [21, 22]⟩,
 ⟨some 24, .mv (.tmp 0), none, [], [0]⟩,
 ⟨some 25, .mv (.tmp 2), none, [], [2]⟩,
 ⟨some 26, .mv (.tmp 10), none, [], [10]⟩,
 ⟨some 27, .bin .add (.tmp 25) (.tmp 26), none, [9, 10], [25, 26]⟩,
 ⟨some 28, .iaddr 1 (.tmp 24) (.tmp 27), none, [8, 11], [24, 27]⟩,
 ⟨some 29, .load false 1 (.tmp 28), none, [12], [28]⟩,
 ⟨some 30, .mv (.tmp 0), none, [], [0]⟩,
 ⟨some 31, .mv (.tmp 1), none, [], [1]⟩,
 ⟨some 32, .mv (.tmp 10), none, [], [10]⟩,
 ⟨some 33, .bin .add (.tmp 31) (.tmp 32), none, [15, 16], [31, 32]⟩,
 ⟨some 34, .iaddr 1 (.tmp 30) (.tmp 33), none, [14, 17], [30, 33]⟩,
 ⟨some 35, .load false 1 (.tmp 34), none, [18], [34]⟩,
 ⟨some 36, .iaddr 1 (.tmp 16) (.tmp 19), none, [0, 3, 0, 1, 2, 3, 8, 9, 10, 11, 12, 13, 19], [16, 19]⟩,
 ⟨none, .store 1 (.tmp 36) (.tmp 29), none, [20, 13, 0, 1, 2, 3, 8, 9, 10, 11, 12, 13, 19], [36, 29]⟩,
 ⟨some 37, .iaddr 1 (.tmp 20) (.tmp 23), none, [4, 7, 0, 1, 2, 3, 4, 5, 6, 7, 8, 9, 10, 11, 12, 13, 14, 15, 16, 17, 18, 19, 20, 21], [20, 23]⟩,
 ⟨none, .store 1 (.tmp 37) (.tmp 35), none, [22, 19, 21, 0, 1, 2, 3, 4, 5, 6, 7, 8, 9, 10, 11, 12, 13, 14, 15, 16, 17, 18, 19, 20, 21], [37, 35]⟩])
 (.ghost (.kill [13, 16, 17, 18, 19, 20, 21, 22, 23, 24, 25, 26, 27, 28, 29, 30, 31, 32, 33, 34, 35, 36, 37]))))
 (.seq (.region false [
 ⟨some 14, .mv (.tmp 10), none, [], []⟩,
 ⟨some 15, .bin .add (.tmp 14) (.cst (.int .i64 1)), none, [], []⟩,
 ⟨some 10, .mv (.tmp 15), none, [], []⟩])
 (.ghost (.kill [14, 15])))))
def Xq1.main : ACode := (.seq (.seq (.region false [
 ⟨some 10, .mv (.cst (.int .i64 0)), none, [], []⟩])
 (.ghost (.kill [4])))
 (.seq (.block 0 (.loop Xq1.b0))
 Xq1.c0))
def Xq1.k0 : List Item := [.inBlock 0, .code Xq1.c0]
def Xq1 : AFunc := ⟨38, [], Xq1.main, false⟩
def T : FuncId → Option AFunc
 | 5 => some Xq18
 | 6 => some Xq24
 | 8 => some Xq15
 | 9 => some Xq29
 | 12 => some Xq56
 | 13 => some Xq61
 | 14 => some Xq59
 | 15 => some Xq47
 | 17 => some Xq67
 | 18 => some Xq44
 | 20 => some Xq66
 | 22 => some Xq62
 | 24 => some Xq49
 | 27 => some Xq39
 | 28 => some Xq63
 | 29 => some Xq32
 | 30 => some Xq43
 | 31 => some Xq68
 | 32 => some Xq69
 | 33 => some Xq65
 | 34 => some Xq35
 | 37 => some Xq55
 | 38 => some Xq42
 | 39 => some Xq57
 | 41 => some Xq54
 | 42 => some Xq40
 | 43 => some Xq70
 | 44 => some Xq36
 | 45 => some Xq13
 | 46 => some Xq3
 | 47 => some Xq38
 | 48 => some Xq64
 | 49 => some Xq58
 | 50 => some Xq27
 | 51 => some Xq52
 | 53 => some Xq48
 | 54 => some Xq31
 | 55 => some Xq21
 | 56 => some Xq51
 | 57 => some Xq7
 | 58 => some Xq46
 | 59 => some Xq50
 | 61 => some Xq60
 | 62 => some Xq34
 | 63 => some Xq4
 | 64 => some Xq25
 | 65 => some Xq41
 | 66 => some Xq23
 | 67 => some Xq17
 | 68 => some Xq45
 | 69 => some Xq6
 | 70 => some Xq33
 | 71 => some Xq53
 | 72 => some Xq37
 | 73 => some Xq22
 | 74 => some Xq30
 | 75 => some Xq12
 | 76 => some Xq20
 | 77 => some Xq19
 | 78 => some Xq14
 | 79 => some Xq28
 | 80 => some Xq0
 | 81 => some Xq2
 | 82 => some Xq8
 | 83 => some Xq9
 | 84 => some Xq10
 | 85 => some Xq11
 | 86 => some Xq26
 | 87 => some Xq16
 | 88 => some Xq5
 | 89 => some Xq1
 | _ => none
theorem T_Xq18 : T i_Xq18 = some Xq18 := rfl
theorem T_Xq24 : T i_Xq24 = some Xq24 := rfl
theorem T_Xq15 : T i_Xq15 = some Xq15 := rfl
theorem T_Xq29 : T i_Xq29 = some Xq29 := rfl
theorem T_Xq56 : T i_Xq56 = some Xq56 := rfl
theorem T_Xq61 : T i_Xq61 = some Xq61 := rfl
theorem T_Xq59 : T i_Xq59 = some Xq59 := rfl
theorem T_Xq47 : T i_Xq47 = some Xq47 := rfl
theorem T_Xq67 : T i_Xq67 = some Xq67 := rfl
theorem T_Xq44 : T i_Xq44 = some Xq44 := rfl
theorem T_Xq66 : T i_Xq66 = some Xq66 := rfl
theorem T_Xq62 : T i_Xq62 = some Xq62 := rfl
theorem T_Xq49 : T i_Xq49 = some Xq49 := rfl
theorem T_Xq39 : T i_Xq39 = some Xq39 := rfl
theorem T_Xq63 : T i_Xq63 = some Xq63 := rfl
theorem T_Xq32 : T i_Xq32 = some Xq32 := rfl
theorem T_Xq43 : T i_Xq43 = some Xq43 := rfl
theorem T_Xq68 : T i_Xq68 = some Xq68 := rfl
theorem T_Xq69 : T i_Xq69 = some Xq69 := rfl
theorem T_Xq65 : T i_Xq65 = some Xq65 := rfl
theorem T_Xq35 : T i_Xq35 = some Xq35 := rfl
theorem T_Xq55 : T i_Xq55 = some Xq55 := rfl
theorem T_Xq42 : T i_Xq42 = some Xq42 := rfl
theorem T_Xq57 : T i_Xq57 = some Xq57 := rfl
theorem T_Xq54 : T i_Xq54 = some Xq54 := rfl
theorem T_Xq40 : T i_Xq40 = some Xq40 := rfl
theorem T_Xq70 : T i_Xq70 = some Xq70 := rfl
theorem T_Xq36 : T i_Xq36 = some Xq36 := rfl
theorem T_Xq13 : T i_Xq13 = some Xq13 := rfl
theorem T_Xq3 : T i_Xq3 = some Xq3 := rfl
theorem T_Xq38 : T i_Xq38 = some Xq38 := rfl
theorem T_Xq64 : T i_Xq64 = some Xq64 := rfl
theorem T_Xq58 : T i_Xq58 = some Xq58 := rfl
theorem T_Xq27 : T i_Xq27 = some Xq27 := rfl
theorem T_Xq52 : T i_Xq52 = some Xq52 := rfl
theorem T_Xq48 : T i_Xq48 = some Xq48 := rfl
theorem T_Xq31 : T i_Xq31 = some Xq31 := rfl
theorem T_Xq21 : T i_Xq21 = some Xq21 := rfl
theorem T_Xq51 : T i_Xq51 = some Xq51 := rfl
theorem T_Xq7 : T i_Xq7 = some Xq7 := rfl
theorem T_Xq46 : T i_Xq46 = some Xq46 := rfl
theorem T_Xq50 : T i_Xq50 = some Xq50 := rfl
theorem T_Xq60 : T i_Xq60 = some Xq60 := rfl
theorem T_Xq34 : T i_Xq34 = some Xq34 := rfl
theorem T_Xq4 : T i_Xq4 = some Xq4 := rfl
theorem T_Xq25 : T i_Xq25 = some Xq25 := rfl
theorem T_Xq41 : T i_Xq41 = some Xq41 := rfl
theorem T_Xq23 : T i_Xq23 = some Xq23 := rfl
theorem T_Xq17 : T i_Xq17 = some Xq17 := rfl
theorem T_Xq45 : T i_Xq45 = some Xq45 := rfl
theorem T_Xq6 : T i_Xq6 = some Xq6 := rfl
theorem T_Xq33 : T i_Xq33 = some Xq33 := rfl
theorem T_Xq53 : T i_Xq53 = some Xq53 := rfl
theorem T_Xq37 : T i_Xq37 = some Xq37 := rfl
theorem T_Xq22 : T i_Xq22 = some Xq22 := rfl
theorem T_Xq30 : T i_Xq30 = some Xq30 := rfl
theorem T_Xq12 : T i_Xq12 = some Xq12 := rfl
theorem T_Xq20 : T i_Xq20 = some Xq20 := rfl
theorem T_Xq19 : T i_Xq19 = some Xq19 := rfl
theorem T_Xq14 : T i_Xq14 = some Xq14 := rfl
theorem T_Xq28 : T i_Xq28 = some Xq28 := rfl
theorem T_Xq0 : T i_Xq0 = some Xq0 := rfl
theorem T_Xq2 : T i_Xq2 = some Xq2 := rfl
theorem T_Xq8 : T i_Xq8 = some Xq8 := rfl
theorem T_Xq9 : T i_Xq9 = some Xq9 := rfl
theorem T_Xq10 : T i_Xq10 = some Xq10 := rfl
theorem T_Xq11 : T i_Xq11 = some Xq11 := rfl
theorem T_Xq26 : T i_Xq26 = some Xq26 := rfl
theorem T_Xq16 : T i_Xq16 = some Xq16 := rfl
theorem T_Xq5 : T i_Xq5 = some Xq5 := rfl
theorem T_Xq1 : T i_Xq1 = some Xq1 := rfl
end Go.Abs
