/- The functions of the program as terms of the abstract machine, printed by wip/gen/gen.py, with marks. -/
import Derived.Test.YtjfiifcehdjhpaaJAbsCore
set_option linter.all false
namespace Go.Abs
open Go
def i_X2 : FuncId := 3
def i_X7 : FuncId := 4
def i_X9 : FuncId := 5
def i_X14 : FuncId := 6
def i_l40_JoinParts : FuncId := 7
def i_X19 : FuncId := 9
def i_X52 : FuncId := 10
def i_X25 : FuncId := 11
def i_X47 : FuncId := 12
def i_X62 : FuncId := 13
def i_X56 : FuncId := 14
def i_X36 : FuncId := 15
def i_X21 : FuncId := 16
def i_X58 : FuncId := 17
def i_X39 : FuncId := 18
def i_X30 : FuncId := 19
def i_X55 : FuncId := 20
def i_X38 : FuncId := 21
def i_X61 : FuncId := 22
def i_X41 : FuncId := 23
def i_X49 : FuncId := 24
def i_X27 : FuncId := 25
def i_X65 : FuncId := 26
def i_X37 : FuncId := 27
def i_X59 : FuncId := 28
def i_X23 : FuncId := 29
def i_X68 : FuncId := 31
def i_X66 : FuncId := 32
def i_X64 : FuncId := 33
def i_X31 : FuncId := 34
def i_X69 : FuncId := 35
def i_X22 : FuncId := 36
def i_X45 : FuncId := 37
def i_X35 : FuncId := 38
def i_X53 : FuncId := 39
def i_X63 : FuncId := 40
def i_X48 : FuncId := 41
def i_X42 : FuncId := 42
def i_X70 : FuncId := 43
def i_X29 : FuncId := 44
def i_X60 : FuncId := 48
def i_X54 : FuncId := 49
def i_X24 : FuncId := 50
def i_X51 : FuncId := 51
def i_X67 : FuncId := 52
def i_X40 : FuncId := 53
def i_X18 : FuncId := 54
def i_X13 : FuncId := 55
def i_X46 : FuncId := 56
def i_X1 : FuncId := 57
def i_X43 : FuncId := 58
def i_X50 : FuncId := 59
def i_X28 : FuncId := 60
def i_X57 : FuncId := 61
def i_X32 : FuncId := 62
def i_X34 : FuncId := 68
def i_X0 : FuncId := 69
def i_X20 : FuncId := 70
def i_X44 : FuncId := 71
def i_X33 : FuncId := 72
def i_X15 : FuncId := 73
def i_X17 : FuncId := 74
def i_X6 : FuncId := 75
def i_X11 : FuncId := 76
def i_X12 : FuncId := 77
def i_X8 : FuncId := 78
def i_X26 : FuncId := 79
def i_X3 : FuncId := 83
def i_X4 : FuncId := 84
def i_X5 : FuncId := 85
def i_X16 : FuncId := 86
def i_X10 : FuncId := 87
def X2.c0 : ACode := (.seq (.region false [
 ⟨some 170, .mv (.tmp 7), none, [], []⟩,
 ⟨some 6, .mv (.tmp 170), none, [], []⟩])
 .ret)
def X2.c1 : ACode := (.ghost (.kill [2, 3, 9, 10, 39]))
def X2.b0 : ACode := (.seq (.seq (.seq (.region false [
 ⟨some 36, .mv (.tmp 10), none, [], []⟩,
 ⟨some 37, .mv (.tmp 9), none, [], []⟩,
 ⟨some 38, .len .sl (.tmp 37), none, [], []⟩,
 ⟨some 39, .bin .lss (.tmp 36) (.tmp 38), none, [], []⟩])
 (.ghost (.kill [36, 37, 38])))
 (.cond (.tmp 39) .skip
 (.exit 0)))
 (.seq (.trunc (.seq (.block 1 (.seq (.seq (.region false [
 ⟨some 42, .mv (.tmp 9), none, [], []⟩,
 ⟨some 43, .mv (.tmp 10), none, [], []⟩,
 ⟨some 44, .iaddr 4 (.tmp 42) (.tmp 43), none, [], []⟩,
 ⟨some 45, .load true 4 (.tmp 44), none, [], []⟩,
 ⟨some 11, .alloc [.nils, .nils, (.int .i64 0), (.int .i64 0)], none, [], []⟩,
 ⟨none, .store 4 (.tmp 11) (.tmp 45), none, [], []⟩])
 (.ghost (.kill [39, 42, 43, 44, 45])))
 (.seq (.seq (.region true [
 ⟨some 46, .faddr 0 (.tmp 11), none, [], [11]⟩,
 ⟨some 47, .load false 1 (.tmp 46), none, [0], [46]⟩,
 ⟨some 48, .faddr 1 (.tmp 11), none, [], [11]⟩,
 ⟨some 49, .load false 1 (.tmp 48), none, [2], [48]⟩,
 ⟨some 50, .faddr 2 (.tmp 11), none, [], [11]⟩,
 ⟨some 51, .load true 2 (.tmp 50), none, [4], [50]⟩,
 ⟨some 52, .call true i_X36 [(.tmp 47), (.tmp 49), (.tmp 51)], none, [1, 3, 5], [47, 49, 51]⟩,
 ⟨some 53, .faddr 0 (.tmp 11), none, [], [11]⟩,
 ⟨some 54, .load false 1 (.tmp 53), none, [7], [53]⟩,
 ⟨some 55, .faddr 1 (.tmp 11), none, [], [11]⟩,
 ⟨some 56, .load false 1 (.tmp 55), none, [9], [55]⟩,
 ⟨some 57, .faddr 2 (.tmp 11), none, [], [11]⟩,
 ⟨some 58, .load true 2 (.tmp 57), none, [11], [57]⟩,
 ⟨some 59, .call true i_X21 [(.tmp 54), (.tmp 56), (.tmp 58)], none, [8, 10, 12, 6], [54, 56, 58]⟩,
 ⟨some 60, .call true i_X56 [(.tmp 52), (.tmp 59)], none, [6, 13, 13], [52, 59]⟩,
 ⟨some 61, .un .not (.tmp 60), none, [14], [60]⟩,
 ⟨some 62, .mv (.tmp 61), none, [15, 14], [61]⟩,
 ⟨some 63, .faddr 0 (.tmp 11), (some ((some 62), false)), [16], [11]⟩,
 ⟨some 64, .load false 1 (.tmp 63), (some ((some 62), false)), [17, 16], [63]⟩,
 ⟨some 65, .faddr 1 (.tmp 11), (some ((some 62), false)), [16], [11]⟩,
 ⟨some 66, .load false 1 (.tmp 65), (some ((some 62), false)), [19, 16], [65]⟩,
 ⟨some 67, .faddr 2 (.tmp 11), (some ((some 62), false)), [16], [11]⟩,
 ⟨some 68, .load true 2 (.tmp 67), (some ((some 62), false)), [21, 16], [67]⟩,
 ⟨some 69, .call true i_X58 [(.tmp 64), (.tmp 66), (.tmp 68)], (some ((some 62), false)), [18, 20, 22, 16, 16], [64, 66, 68]⟩,
 ⟨some 70, .faddr 0 (.tmp 11), (some ((some 62), false)), [16], [11]⟩,
 ⟨some 71, .load false 1 (.tmp 70), (some ((some 62), false)), [24, 16], [70]⟩,
 ⟨some 72, .faddr 1 (.tmp 11), (some ((some 62), false)), [16], [11]⟩,
 ⟨some 73, .load false 1 (.tmp 72), (some ((some 62), false)), [26, 16], [72]⟩,
 ⟨some 74, .faddr 2 (.tmp 11), (some ((some 62), false)), [16], [11]⟩,
 ⟨some 75, .load true 2 (.tmp 74), (some ((some 62), false)), [28, 16], [74]⟩,
 ⟨some 76, .call true i_X21 [(.tmp 71), (.tmp 73), (.tmp 75)], (some ((some 62), false)), [25, 27, 29, 23, 16], [71, 73, 75]⟩,
 ⟨some 77, .call true i_X56 [(.tmp 69), (.tmp 76)], (some ((some 62), false)), [23, 30, 30, 16], [69, 76]⟩,
 ⟨some 78, .un .not (.tmp 77), (some ((some 62), false)), [31, 16], [77]⟩,
 ⟨some 79, .pick (.tmp 62) (.cst (.bool true)) (.tmp 78), none, [16, 32], [62, 78]⟩,
 ⟨some 80, .mv (.tmp 79), none, [33, 31], [79]⟩,
 ⟨some 81, .faddr 0 (.tmp 11), (some ((some 80), false)), [34], [11]⟩,
 ⟨some 82, .load false 1 (.tmp 81), (some ((some 80), false)), [35, 34], [81]⟩,
 ⟨some 83, .faddr 1 (.tmp 11), (some ((some 80), false)), [34], [11]⟩,
 ⟨some 84, .load false 1 (.tmp 83), (some ((some 80), false)), [37, 34], [83]⟩,
 ⟨some 85, .faddr 2 (.tmp 11), (some ((some 80), false)), [34], [11]⟩,
 ⟨some 86, .load true 2 (.tmp 85), (some ((some 80), false)), [39, 34], [85]⟩,
 ⟨some 87, .call true i_X39 [(.tmp 82), (.tmp 84), (.tmp 86)], (some ((some 80), false)), [36, 38, 40, 34, 34], [82, 84, 86]⟩,
 ⟨some 88, .faddr 0 (.tmp 11), (some ((some 80), false)), [34], [11]⟩,
 ⟨some 89, .load false 1 (.tmp 88), (some ((some 80), false)), [42, 34], [88]⟩,
 ⟨some 90, .faddr 1 (.tmp 11), (some ((some 80), false)), [34], [11]⟩,
 ⟨some 91, .load false 1 (.tmp 90), (some ((some 80), false)), [44, 34], [90]⟩,
 ⟨some 92, .faddr 2 (.tmp 11), (some ((some 80), false)), [34], [11]⟩,
 ⟨some 93, .load true 2 (.tmp 92), (some ((some 80), false)), [46, 34], [92]⟩,
 ⟨some 94, .call true i_X30 [(.tmp 89), (.tmp 91), (.tmp 93)], (some ((some 80), false)), [43, 45, 47, 41, 34], [89, 91, 93]⟩,
 ⟨some 95, .call true i_X56 [(.tmp 87), (.tmp 94)], (some ((some 80), false)), [41, 48, 48, 34], [87, 94]⟩,
 ⟨some 96, .un .not (.tmp 95), (some ((some 80), false)), [49, 34], [95]⟩,
 ⟨some 97, .pick (.tmp 80) (.cst (.bool true)) (.tmp 96), none, [34, 50], [80, 96]⟩,
 ⟨some 98, .mv (.tmp 97), none, [51, 49], [97]⟩,
 ⟨some 99, .faddr 0 (.tmp 11), (some ((some 98), false)), [52], [11]⟩,
 ⟨some 100, .load false 1 (.tmp 99), (some ((some 98), false)), [53, 52], [99]⟩,
 ⟨some 101, .faddr 1 (.tmp 11), (some ((some 98), false)), [52], [11]⟩,
 ⟨some 102, .load false 1 (.tmp 101), (some ((some 98), false)), [55, 52], [101]⟩,
 ⟨some 103, .faddr 2 (.tmp 11), (some ((some 98), false)), [52], [11]⟩,
 ⟨some 104, .load true 2 (.tmp 103), (some ((some 98), false)), [57, 52], [103]⟩,
 ⟨some 105, .call true i_X55 [(.tmp 100), (.tmp 102), (.tmp 104)], (some ((some 98), false)), [54, 56, 58, 52, 52], [100, 102, 104]⟩,
 ⟨some 106, .faddr 0 (.tmp 11), (some ((some 98), false)), [52], [11]⟩,
 ⟨some 107, .load false 1 (.tmp 106), (some ((some 98), false)), [60, 52], [106]⟩,
 ⟨some 108, .faddr 1 (.tmp 11), (some ((some 98), false)), [52], [11]⟩,
 ⟨some 109, .load false 1 (.tmp 108), (some ((some 98), false)), [62, 52], [108]⟩,
 ⟨some 110, .faddr 2 (.tmp 11), (some ((some 98), false)), [52], [11]⟩,
 ⟨some 111, .load true 2 (.tmp 110), (some ((some 98), false)), [64, 52], [110]⟩,
 ⟨some 112, .call true i_X38 [(.tmp 107), (.tmp 109), (.tmp 111)], (some ((some 98), false)), [61, 63, 65, 59, 52], [107, 109, 111]⟩,
 ⟨some 113, .call true i_X56 [(.tmp 105), (.tmp 112)], (some ((some 98), false)), [59, 66, 66, 52], [105, 112]⟩,
 ⟨some 114, .un .not (.tmp 113), (some ((some 98), false)), [67, 52], [113]⟩,
 ⟨some 115, .pick (.tmp 98) (.cst (.bool true)) (.tmp 114), none, [52, 68], [98, 114]⟩,
 ⟨some 116, .mv (.tmp 115), none, [69, 67], [115]⟩,
 ⟨some 117, .faddr 0 (.tmp 11), (some ((some 116), false)), [70], [11]⟩,
 ⟨some 118, .load false 1 (.tmp 117), (some ((some 116), false)), [71, 70], [117]⟩,
 ⟨some 119, .faddr 1 (.tmp 11), (some ((some 116), false)), [70], [11]⟩,
 ⟨some 120, .load false 1 (.tmp 119), (some ((some 116), false)), [73, 70], [119]⟩,
 ⟨some 121, .faddr 2 (.tmp 11), (some ((some 116), false)), [70], [11]⟩,
 ⟨some 122, .load true 2 (.tmp 121), (some ((some 116), false)), [75, 70], [121]⟩,
 ⟨some 123, .call true i_X61 [(.tmp 118), (.tmp 120), (.tmp 122)], (some ((some 116), false)), [72, 74, 76, 70, 70], [118, 120, 122]⟩,
 ⟨some 124, .faddr 0 (.tmp 11), (some ((some 116), false)), [70], [11]⟩,
 ⟨some 125, .load false 1 (.tmp 124), (some ((some 116), false)), [78, 70], [124]⟩,
 ⟨some 126, .faddr 1 (.tmp 11), (some ((some 116), false)), [70], [11]⟩,
 ⟨some 127, .load false 1 (.tmp 126), (some ((some 116), false)), [80, 70], [126]⟩,
 ⟨some 128, .faddr 2 (.tmp 11), (some ((some 116), false)), [70], [11]⟩,
 ⟨some 129, .load true 2 (.tmp 128), (some ((some 116), false)), [82, 70], [128]⟩,
 ⟨some 130, .call true i_X41 [(.tmp 125), (.tmp 127), (.tmp 129)], (some ((some 116), false)), [79, 81, 83, 77, 70], [125, 127, 129]⟩,
 ⟨some 131, .call true i_X56 [(.tmp 123), (.tmp 130)], (some ((some 116), false)), [77, 84, 84, 70], [123, 130]⟩,
 ⟨some 132, .un .not (.tmp 131), (some ((some 116), false)), [85, 70], [131]⟩,
 ⟨some 133, .pick (.tmp 116) (.cst (.bool true)) (.tmp 132), none, [70, 86], [116, 132]⟩,
 ⟨some 134, .mv (.tmp 133), none, [87, 85], [133]⟩,
 ⟨some 135, .load true 4 (.tmp 11), (some ((some 134), false)), [88], [11]⟩,
 ⟨some 136, .mv (.tmp 2), (some ((some 134), false)), [88], [2]⟩,
 ⟨some 137, .call true i_X49 [(.tmp 135), (.tmp 136)], (some ((some 134), false)), [89, 90, 88, 88], [135, 136]⟩,
 ⟨some 138, .faddr 0 (.tmp 11), (some ((some 134), false)), [88], [11]⟩,
 ⟨some 139, .load false 1 (.tmp 138), (some ((some 134), false)), [92, 88], [138]⟩,
 ⟨some 140, .faddr 1 (.tmp 11), (some ((some 134), false)), [88], [11]⟩,
 ⟨some 141, .load false 1 (.tmp 140), (some ((some 134), false)), [94, 88], [140]⟩,
 ⟨some 142, .faddr 2 (.tmp 11), (some ((some 134), false)), [88], [11]⟩,
 ⟨some 143, .load true 2 (.tmp 142), (some ((some 134), false)), [96, 88], [142]⟩,
 ⟨some 144, .mv (.tmp 2), (some ((some 134), false)), [88], [2]⟩,
 ⟨some 145, .call true i_X27 [(.tmp 139), (.tmp 141), (.tmp 143), (.tmp 144)], (some ((some 134), false)), [93, 95, 97, 98, 91, 88], [139, 141, 143, 144]⟩,
 ⟨some 146, .call true i_X56 [(.tmp 137), (.tmp 145)], (some ((some 134), false)), [91, 99, 99, 88], [137, 145]⟩,
 ⟨some 147, .un .not (.tmp 146), (some ((some 134), false)), [100, 88], [146]⟩,
 ⟨some 148, .pick (.tmp 134) (.cst (.bool true)) (.tmp 147), none, [88, 101], [134, 147]⟩,
 ⟨some 149, .mv (.tmp 148), none, [102, 100], [148]⟩,
 ⟨some 150, .load true 4 (.tmp 11), (some ((some 149), false)), [103], [11]⟩,
 ⟨some 151, .faddr 3 (.tmp 3), (some ((some 149), false)), [103], [3]⟩,
 ⟨some 152, .load false 1 (.tmp 151), (some ((some 149), false)), [105, 103], [151]⟩,
 ⟨some 153, .bin .rem (.tmp 152) (.cst (.int .u8 34)), (some ((some 149), false)), [106, 103], [152]⟩,
 ⟨some 154, .conv .i64 (.tmp 153), (some ((some 149), false)), [107, 103], [153]⟩,
 ⟨some 155, .call true i_X49 [(.tmp 150), (.tmp 154)], (some ((some 149), false)), [104, 108, 103, 103], [150, 154]⟩,
 ⟨some 156, .faddr 0 (.tmp 11), (some ((some 149), false)), [103], [11]⟩,
 ⟨some 157, .load false 1 (.tmp 156), (some ((some 149), false)), [110, 103], [156]⟩,
 ⟨some 158, .faddr 1 (.tmp 11), (some ((some 149), false)), [103], [11]⟩,
 ⟨some 159, .load false 1 (.tmp 158), (some ((some 149), false)), [112, 103], [158]⟩,
 ⟨some 160, .faddr 2 (.tmp 11), (some ((some 149), false)), [103], [11]⟩,
 ⟨some 161, .load true 2 (.tmp 160), (some ((some 149), false)), [114, 103], [160]⟩,
 ⟨some 162, .faddr 3 (.tmp 3), (some ((some 149), false)), [103], [3]⟩,
 ⟨some 163, .load false 1 (.tmp 162), (some ((some 149), false)), [116, 103], [162]⟩,
 ⟨some 164, .bin .rem (.tmp 163) (.cst (.int .u8 34)), (some ((some 149), false)), [117, 103], [163]⟩,
 ⟨some 165, .conv .i64 (.tmp 164), (some ((some 149), false)), [118, 103], [164]⟩,
 ⟨some 166, .call true i_X27 [(.tmp 157), (.tmp 159), (.tmp 161), (.tmp 165)], (some ((some 149), false)), [111, 113, 115, 119, 109, 103], [157, 159, 161, 165]⟩,
 ⟨some 167, .call true i_X56 [(.tmp 155), (.tmp 166)], (some ((some 149), false)), [109, 120, 120, 103], [155, 166]⟩,
 ⟨some 168, .un .not (.tmp 167), (some ((some 149), false)), [121, 103], [167]⟩,
 ⟨some 169, .pick (.tmp 149) (.cst (.bool true)) (.tmp 168), none, [103, 122], [149, 168]⟩])
 (.ghost (.kill [11, 46, 47, 48, 49, 50, 51, 52, 53, 54, 55, 56, 57, 58, 59, 60, 61, 62, 63, 64, 65, 66, 67, 68, 69, 70, 71, 72, 73, 74, 75, 76, 77, 78, 79, 80, 81, 82, 83, 84, 85, 86, 87, 88, 89, 90, 91, 92, 93, 94, 95, 96, 97, 98, 99, 100, 101, 102, 103, 104, 105, 106, 107, 108, 109, 110, 111, 112, 113, 114, 115, 116, 117, 118, 119, 120, 121, 122, 123, 124, 125, 126, 127, 128, 129, 130, 131, 132, 133, 134, 135, 136, 137, 138, 139, 140, 141, 142, 143, 144, 145, 146, 147, 148, 149, 150, 151, 152, 153, 154, 155, 156, 157, 158, 159, 160, 161, 162, 163, 164, 165, 166, 167, 168])))
 (.cond (.tmp 169) (.seq (.region false [
   ⟨some 6, .mv (.cst (.bool false)), none, [], []⟩])
  .ret)
 .skip))))
 (.ghost (.kill [169]))))
 (.seq (.region false [
 ⟨some 40, .mv (.tmp 10), none, [], []⟩,
 ⟨some 41, .bin .add (.tmp 40) (.cst (.int .i64 1)), none, [], []⟩,
 ⟨some 10, .mv (.tmp 41), none, [], []⟩])
 (.ghost (.kill [40, 41])))))
def X2.main : ACode := (.seq (.seq (.region false [
 ⟨some 3, .box 6 (.tmp 0), none, [], []⟩,
 ⟨some 4, .box 4 (.tmp 1), none, [], []⟩,
 ⟨some 6, .mv (.cst (.bool false)), none, [], []⟩])
 (.ghost (.kill [0, 1, 6])))
 (.seq (.seq (.region false [
 ⟨some 12, .call true i_X19 [], none, [], []⟩,
 ⟨some 7, .mv (.tmp 12), none, [], []⟩])
 (.ghost (.kill [12])))
 (.seq (.seq (.seq (.region false [
 ⟨some 13, .mv (.tmp 7), none, [], []⟩,
 ⟨some 14, .un .not (.tmp 13), none, [], []⟩])
 (.ghost (.kill [13])))
 (.cond (.tmp 14) (.seq (.region false [
   ⟨some 6, .mv (.cst (.bool false)), none, [], []⟩])
  .ret)
 .skip))
 (.seq (.seq (.seq (.region false [
 ⟨some 15, .load true 4 (.tmp 4), none, [], []⟩,
 ⟨some 16, .call true i_X52 [(.tmp 15)], none, [], []⟩,
 ⟨some 17, .un .not (.tmp 16), none, [], []⟩])
 (.ghost (.kill [14, 15, 16])))
 (.cond (.tmp 17) (.seq (.region false [
   ⟨some 18, .mv (.tmp 7), none, [], []⟩,
   ⟨some 6, .mv (.tmp 18), none, [], []⟩])
  .ret)
 .skip))
 (.seq (.seq (.region true [
 ⟨some 19, .call true i_X47 [(.cst (.int .i64 1))], none, [], []⟩,
 ⟨some 20, .flist 3 1 [(.int .i64 0), (.int .i64 0), (.str ⟨#[]⟩)] [(0, (.tmp 19))], none, [0], [19]⟩,
 ⟨some 21, .faddr 2 (.tmp 3), none, [], [3]⟩,
 ⟨some 22, .load false 1 (.tmp 21), none, [2], [21]⟩,
 ⟨some 23, .bin .rem (.tmp 22) (.cst (.int .u8 30)), none, [3], [22]⟩,
 ⟨some 24, .conv .i64 (.tmp 23), none, [4], [23]⟩,
 ⟨some 25, .bin .add (.cst (.int .i64 50)) (.tmp 24), none, [5], [24]⟩,
 ⟨some 26, .call true i_X25 [(.tmp 20), (.tmp 25)], none, [1, 6, 0], [20, 25]⟩,
 ⟨some 27, .call true i_X47 [(.cst (.int .i64 1))], none, [7], []⟩,
 ⟨some 28, .flist 3 1 [(.int .i64 0), (.int .i64 0), (.str ⟨#[]⟩)] [(0, (.tmp 27))], none, [8], [27]⟩,
 ⟨some 29, .call true i_X25 [(.tmp 28), (.cst (.int .i64 70))], none, [9, 8], [28]⟩,
 ⟨some 30, .build [.nils, .nils, (.int .i64 0), (.int .i64 0)] [(0, 1, (.tmp 26)), (1, 1, (.tmp 29))], none, [7, 10], [26, 29]⟩,
 ⟨some 8, .alloc [.nils, .nils, (.int .i64 0), (.int .i64 0)], none, [], []⟩,
 ⟨none, .store 4 (.tmp 8) (.tmp 30), none, [12, 11, 10, 0, 1, 2, 3, 4, 5, 6, 7, 8, 9, 10, 11, 12], [8, 30]⟩])
 (.ghost (.kill [17, 19, 20, 21, 22, 23, 24, 25, 26, 27, 28, 29, 30])))
 (.seq (.seq (.region true [
 ⟨some 31, .load true 6 (.tmp 3), none, [], [3]⟩,
 ⟨some 32, .call true i_X62 [(.tmp 31)], none, [0], [31]⟩,
 ⟨some 33, .load true 4 (.tmp 4), none, [], [4]⟩,
 ⟨some 34, .load true 4 (.tmp 8), none, [], [8]⟩,
 ⟨some 35, .bslice 4 3 [.nils, .nils, (.int .i64 0), (.int .i64 0)] [(0, (.tmp 32)), (1, (.tmp 33)), (2, (.tmp 34))], none, [1, 2, 3], [32, 33, 34]⟩,
 ⟨some 9, .mv (.tmp 35), none, [4, 1, 0, 1, 2, 3, 4], [35]⟩])
 (.ghost (.kill [4, 8, 31, 32, 33, 34, 35])))
 (.seq (.seq (.region false [
 ⟨some 10, .mv (.cst (.int .i64 0)), none, [], []⟩])
 (.seq (.block 0 (.loop X2.b0))
 X2.c1))
 X2.c0)))))))
def X2.k0 : List Item := [.inBlock 0, .code X2.c1, .code X2.c0]
def X2 : AFunc := ⟨171, [.tmp 6], X2.main, false⟩
def X7.c0 : ACode := (.seq (.region true [
 ⟨some 67, .faddr 0 (.tmp 4), none, [], [4]⟩,
 ⟨some 68, .load false 1 (.tmp 67), none, [0], [67]⟩,
 ⟨some 69, .faddr 1 (.tmp 4), none, [], [4]⟩,
 ⟨some 70, .load false 1 (.tmp 69), none, [2], [69]⟩,
 ⟨some 71, .faddr 2 (.tmp 4), none, [], [4]⟩,
 ⟨some 72, .load true 2 (.tmp 71), none, [4], [71]⟩,
 ⟨some 73, .call true i_X58 [(.tmp 68), (.tmp 70), (.tmp 72)], none, [1, 3, 5], [68, 70, 72]⟩,
 ⟨some 74, .faddr 0 (.tmp 4), none, [], [4]⟩,
 ⟨some 75, .load false 1 (.tmp 74), none, [7], [74]⟩,
 ⟨some 76, .faddr 1 (.tmp 4), none, [], [4]⟩,
 ⟨some 77, .load false 1 (.tmp 76), none, [9], [76]⟩,
 ⟨some 78, .faddr 2 (.tmp 4), none, [], [4]⟩,
 ⟨some 79, .load true 2 (.tmp 78), none, [11], [78]⟩,
 ⟨some 80, .call true i_X36 [(.tmp 75), (.tmp 77), (.tmp 79)], none, [8, 10, 12, 6], [75, 77, 79]⟩,
 ⟨some 81, .call true i_X56 [(.tmp 73), (.tmp 80)], none, [6, 13, 13], [73, 80]⟩,
 ⟨some 82, .mv (.tmp 81), none, [14, 14], [81]⟩,
 ⟨some 83, .mv (.tmp 5), (some ((some 82), true)), [15], [5]⟩,
 ⟨some 84, .mv (.tmp 6), (some ((some 82), true)), [15], [6]⟩,
 ⟨some 85, .faddr 2 (.tmp 4), (some ((some 82), true)), [15], [4]⟩,
 ⟨some 86, .load true 2 (.tmp 85), (some ((some 82), true)), [18, 15], [85]⟩,
 ⟨some 87, .call true i_X39 [(.tmp 83), (.tmp 84), (.tmp 86)], (some ((some 82), true)), [16, 17, 19, 15, 15], [83, 84, 86]⟩,
 ⟨some 88, .mv (.tmp 5), (some ((some 82), true)), [15], [5]⟩,
 ⟨some 89, .mv (.tmp 6), (some ((some 82), true)), [15], [6]⟩,
 ⟨some 90, .faddr 2 (.tmp 4), (some ((some 82), true)), [15], [4]⟩,
 ⟨some 91, .load true 2 (.tmp 90), (some ((some 82), true)), [23, 15], [90]⟩,
 ⟨some 92, .call true i_X36 [(.tmp 88), (.tmp 89), (.tmp 91)], (some ((some 82), true)), [21, 22, 24, 20, 15], [88, 89, 91]⟩,
 ⟨some 93, .call true i_X56 [(.tmp 87), (.tmp 92)], (some ((some 82), true)), [20, 25, 25, 15], [87, 92]⟩,
 ⟨some 94, .pick (.tmp 82) (.tmp 93) (.cst (.bool false)), none, [15, 26], [82, 93]⟩,
 ⟨some 95, .mv (.tmp 94), none, [27, 26], [94]⟩,
 ⟨some 96, .mv (.tmp 5), (some ((some 95), true)), [28], [5]⟩,
 ⟨some 97, .mv (.tmp 6), (some ((some 95), true)), [28], [6]⟩,
 ⟨some 98, .faddr 2 (.tmp 4), (some ((some 95), true)), [28], [4]⟩,
 ⟨some 99, .load true 2 (.tmp 98), (some ((some 95), true)), [31, 28], [98]⟩,
 ⟨some 100, .call true i_X58 [(.tmp 96), (.tmp 97), (.tmp 99)], (some ((some 95), true)), [29, 30, 32, 28, 28], [96, 97, 99]⟩,
 ⟨some 101, .mv (.tmp 5), (some ((some 95), true)), [28], [5]⟩,
 ⟨some 102, .mv (.tmp 6), (some ((some 95), true)), [28], [6]⟩,
 ⟨some 103, .faddr 2 (.tmp 4), (some ((some 95), true)), [28], [4]⟩,
 ⟨some 104, .load true 2 (.tmp 103), (some ((some 95), true)), [36, 28], [103]⟩,
 ⟨some 105, .call true i_X36 [(.tmp 101), (.tmp 102), (.tmp 104)], (some ((some 95), true)), [34, 35, 37, 33, 28], [101, 102, 104]⟩,
 ⟨some 106, .call true i_X56 [(.tmp 100), (.tmp 105)], (some ((some 95), true)), [33, 38, 38, 28], [100, 105]⟩,
 ⟨some 107, .pick (.tmp 95) (.tmp 106) (.cst (.bool false)), none, [28, 39], [95, 106]⟩,
 ⟨some 108, .mv (.tmp 107), none, [40, 39], [107]⟩,
 ⟨some 109, .mv (.tmp 3), (some ((some 108), true)), [41], [3]⟩,
 ⟨some 110, .pick (.tmp 108) (.tmp 109) (.cst (.bool false)), none, [41, 42], [108, 109]⟩,
 ⟨some 2, .mv (.tmp 110), none, [43, 41, 0, 1, 2, 3, 4, 5, 6, 7, 8, 9, 10, 11, 12, 13, 14, 15, 16, 17, 18, 19, 20, 21, 22, 23, 24, 25, 26, 27, 28, 29, 30, 31, 32, 33, 34, 35, 36, 37, 38, 39, 40, 41, 42, 43], [110]⟩])
 .ret)
def X7.main : ACode := (.seq (.seq (.region false [
 ⟨some 1, .box 6 (.tmp 0), none, [], []⟩,
 ⟨some 2, .mv (.cst (.bool false)), none, [], []⟩])
 (.ghost (.kill [0, 2])))
 (.seq (.seq (.region false [
 ⟨some 8, .call true i_X19 [], none, [], []⟩,
 ⟨some 3, .mv (.tmp 8), none, [], []⟩])
 (.ghost (.kill [8])))
 (.seq (.seq (.seq (.region false [
 ⟨some 9, .mv (.tmp 3), none, [], []⟩,
 ⟨some 10, .un .not (.tmp 9), none, [], []⟩])
 (.ghost (.kill [9])))
 (.cond (.tmp 10) (.seq (.region false [
   ⟨some 2, .mv (.cst (.bool false)), none, [], []⟩])
  .ret)
 .skip))
 (.seq (.seq (.region false [
 ⟨some 11, .load true 6 (.tmp 1), none, [], []⟩,
 ⟨some 12, .call true i_X62 [(.tmp 11)], none, [], []⟩,
 ⟨some 4, .alloc [.nils, .nils, (.int .i64 0), (.int .i64 0)], none, [], []⟩,
 ⟨none, .store 4 (.tmp 4) (.tmp 12), none, [], []⟩])
 (.ghost (.kill [1, 10, 11, 12])))
 (.seq (.seq (.region true [
 ⟨some 13, .faddr 0 (.tmp 4), none, [], [4]⟩,
 ⟨some 14, .load false 1 (.tmp 13), none, [0], [13]⟩,
 ⟨some 15, .faddr 2 (.tmp 4), none, [], [4]⟩,
 ⟨some 16, .iaddrA 2 1 (.tmp 15) (.cst (.int .i64 0)), none, [2], [15]⟩,
 ⟨some 17, .load false 1 (.tmp 16), none, [3], [16]⟩,
 ⟨some 18, .call true i_X65 [(.tmp 14), (.tmp 17)], none, [1, 4], [14, 17]⟩,
 ⟨some 19, .faddr 1 (.tmp 4), none, [], [4]⟩,
 ⟨some 20, .load false 1 (.tmp 19), none, [6], [19]⟩,
 ⟨some 21, .faddr 2 (.tmp 4), none, [], [4]⟩,
 ⟨some 22, .iaddrA 2 1 (.tmp 21) (.cst (.int .i64 1)), none, [8], [21]⟩,
 ⟨some 23, .load false 1 (.tmp 22), none, [9], [22]⟩,
 ⟨some 24, .call true i_X65 [(.tmp 20), (.tmp 23)], none, [7, 10, 5], [20, 23]⟩,
 ⟨some 5, .mv (.tmp 18), none, [5, 11, 0, 1, 2, 3, 4, 5], [18]⟩,
 ⟨some 6, .mv (.tmp 24), none, [11, 12, 0, 1, 2, 3, 4, 5, 6, 7, 8, 9, 10, 11, 12], [24]⟩])
 (.ghost (.kill [13, 14, 15, 16, 17, 18, 19, 20, 21, 22, 23, 24])))
 (.seq (.seq (.region false [
 ⟨some 25, .faddr 0 (.tmp 4), none, [], []⟩,
 ⟨some 26, .load false 1 (.tmp 25), none, [], []⟩,
 ⟨some 27, .faddr 1 (.tmp 4), none, [], []⟩,
 ⟨some 28, .load false 1 (.tmp 27), none, [], []⟩,
 ⟨some 29, .faddr 2 (.tmp 4), none, [], []⟩,
 ⟨some 30, .load true 2 (.tmp 29), none, [], []⟩,
 ⟨some 31, .call true i_X39 [(.tmp 26), (.tmp 28), (.tmp 30)], none, [], []⟩,
 ⟨some 7, .alloc [.nils, (.int .i64 0)], none, [], []⟩,
 ⟨none, .store 2 (.tmp 7) (.tmp 31), none, [], []⟩])
 (.ghost (.kill [25, 26, 27, 28, 29, 30, 31])))
 (.seq (.seq (.seq (.region false [
 ⟨some 32, .faddr 0 (.tmp 4), none, [], []⟩,
 ⟨some 33, .load false 1 (.tmp 32), none, [], []⟩,
 ⟨some 34, .faddr 2 (.tmp 4), none, [], []⟩,
 ⟨some 35, .iaddrA 2 1 (.tmp 34) (.cst (.int .i64 0)), none, [], []⟩,
 ⟨some 36, .load false 1 (.tmp 35), none, [], []⟩,
 ⟨some 37, .call true i_X37 [(.tmp 33), (.tmp 36)], none, [], []⟩,
 ⟨some 38, .un .not (.tmp 37), none, [], []⟩,
 ⟨some 39, .mv (.tmp 38), none, [], []⟩,
 ⟨some 40, .faddr 1 (.tmp 4), (some ((some 39), false)), [], []⟩,
 ⟨some 41, .load false 1 (.tmp 40), (some ((some 39), false)), [], []⟩,
 ⟨some 42, .faddr 2 (.tmp 4), (some ((some 39), false)), [], []⟩,
 ⟨some 43, .iaddrA 2 1 (.tmp 42) (.cst (.int .i64 1)), (some ((some 39), false)), [], []⟩,
 ⟨some 44, .load false 1 (.tmp 43), (some ((some 39), false)), [], []⟩,
 ⟨some 45, .call true i_X37 [(.tmp 41), (.tmp 44)], (some ((some 39), false)), [], []⟩,
 ⟨some 46, .un .not (.tmp 45), (some ((some 39), false)), [], []⟩,
 ⟨some 47, .pick (.tmp 39) (.cst (.bool true)) (.tmp 46), none, [], []⟩])
 (.ghost (.kill [32, 33, 34, 35, 36, 37, 38, 39, 40, 41, 42, 43, 44, 45, 46])))
 (.seq (.cond (.tmp 47) (.seq (.seq (.region false [
   ⟨some 48, .faddr 1 (.tmp 7), none, [], []⟩,
   ⟨some 49, .load false 1 (.tmp 48), none, [], []⟩,
   ⟨some 50, .bin .neq (.tmp 49) (.cst (.int .i64 1)), none, [], []⟩,
   ⟨some 51, .mv (.tmp 50), none, [], []⟩,
   ⟨some 52, .faddr 0 (.tmp 7), (some ((some 51), false)), [], []⟩,
   ⟨some 53, .load false 1 (.tmp 52), (some ((some 51), false)), [], []⟩,
   ⟨some 54, .len .sl (.tmp 53), (some ((some 51), false)), [], []⟩,
   ⟨some 55, .bin .gtr (.tmp 54) (.cst (.int .i64 0)), (some ((some 51), false)), [], []⟩,
   ⟨some 56, .pick (.tmp 51) (.cst (.bool true)) (.tmp 55), none, [], []⟩])
  (.ghost (.kill [7, 47, 48, 49, 50, 51, 52, 53, 54, 55])))
  (.cond (.tmp 56) (.seq (.region false [
    ⟨some 2, .mv (.cst (.bool false)), none, [], []⟩])
   .ret)
  .skip))
 (.seq (.seq (.region true [
   ⟨some 57, .load true 2 (.tmp 7), none, [], [7]⟩,
   ⟨some 58, .faddr 0 (.tmp 4), none, [], [4]⟩,
   ⟨some 59, .load false 1 (.tmp 58), none, [1], [58]⟩,
   ⟨some 60, .faddr 1 (.tmp 4), none, [], [4]⟩,
   ⟨some 61, .load false 1 (.tmp 60), none, [3], [60]⟩,
   ⟨some 62, .faddr 2 (.tmp 4), none, [], [4]⟩,
   ⟨some 63, .load true 2 (.tmp 62), none, [5], [62]⟩,
   ⟨some 64, .call true i_X36 [(.tmp 59), (.tmp 61), (.tmp 63)], none, [2, 4, 6], [59, 61, 63]⟩,
   ⟨some 65, .call true i_X56 [(.tmp 57), (.tmp 64)], none, [0, 7, 7], [57, 64]⟩,
   ⟨some 66, .un .not (.tmp 65), none, [8], [65]⟩])
  (.ghost (.kill [7, 47, 57, 58, 59, 60, 61, 62, 63, 64, 65])))
  (.cond (.tmp 66) (.seq (.region false [
    ⟨some 2, .mv (.cst (.bool false)), none, [], []⟩])
   .ret)
  .skip)))
 (.ghost (.kill [56, 66]))))
 X7.c0)))))))
def X7 : AFunc := ⟨111, [.tmp 2], X7.main, false⟩
def X9.c0 : ACode := (.seq (.region false [
 ⟨some 190, .mv (.tmp 8), none, [], []⟩,
 ⟨some 191, .faddr 0 (.tmp 5), none, [], []⟩,
 ⟨some 192, .load false 1 (.tmp 191), none, [], []⟩,
 ⟨some 193, .len .sl (.tmp 192), none, [], []⟩,
 ⟨some 194, .bin .eql (.tmp 190) (.tmp 193), none, [], []⟩,
 ⟨some 195, .mv (.tmp 194), none, [], []⟩,
 ⟨some 196, .mv (.tmp 9), (some ((some 195), true)), [], []⟩,
 ⟨some 197, .faddr 0 (.tmp 6), (some ((some 195), true)), [], []⟩,
 ⟨some 198, .load false 1 (.tmp 197), (some ((some 195), true)), [], []⟩,
 ⟨some 199, .len .sl (.tmp 198), (some ((some 195), true)), [], []⟩,
 ⟨some 200, .bin .eql (.tmp 196) (.tmp 199), (some ((some 195), true)), [], []⟩,
 ⟨some 201, .pick (.tmp 195) (.tmp 200) (.cst (.bool false)), none, [], []⟩,
 ⟨some 202, .mv (.tmp 201), none, [], []⟩,
 ⟨some 203, .mv (.tmp 3), (some ((some 202), true)), [], []⟩,
 ⟨some 204, .pick (.tmp 202) (.tmp 203) (.cst (.bool false)), none, [], []⟩,
 ⟨some 2, .mv (.tmp 204), none, [], []⟩])
 .ret)
def X9.c1 : ACode := (.ghost (.kill [1, 4, 7, 12, 13, 131]))
def X9.b1 : ACode := (.seq (.seq (.seq (.region false [
 ⟨some 127, .mv (.tmp 13), none, [], []⟩,
 ⟨some 128, .faddr 0 (.tmp 7), none, [], []⟩,
 ⟨some 129, .load false 1 (.tmp 128), none, [], []⟩,
 ⟨some 130, .len .sl (.tmp 129), none, [], []⟩,
 ⟨some 131, .bin .lss (.tmp 127) (.tmp 130), none, [], []⟩])
 (.ghost (.kill [127, 128, 129, 130])))
 (.cond (.tmp 131) .skip
 (.exit 2)))
 (.seq (.seq (.block 3 (.seq (.seq (.region false [
 ⟨some 134, .faddr 0 (.tmp 7), none, [], []⟩,
 ⟨some 135, .load false 1 (.tmp 134), none, [], []⟩,
 ⟨some 136, .mv (.tmp 13), none, [], []⟩,
 ⟨some 137, .iaddr 1 (.tmp 135) (.tmp 136), none, [], []⟩,
 ⟨some 138, .load false 1 (.tmp 137), none, [], []⟩,
 ⟨some 14, .mv (.tmp 138), none, [], []⟩])
 (.ghost (.kill [131, 134, 135, 136, 137, 138])))
 (.seq (.seq (.region true [
 ⟨some 139, .mv (.tmp 14), none, [], [14]⟩,
 ⟨some 140, .len .sl (.tmp 139), none, [0], [139]⟩,
 ⟨some 141, .mv (.tmp 12), none, [], [12]⟩,
 ⟨some 142, .bin .add (.tmp 141) (.cst (.int .i64 1)), none, [2], [141]⟩,
 ⟨some 143, .faddr 3 (.tmp 1), none, [], [1]⟩,
 ⟨some 144, .load false 1 (.tmp 143), none, [4], [143]⟩,
 ⟨some 145, .bin .rem (.tmp 144) (.cst (.int .u8 3)), none, [5], [144]⟩,
 ⟨some 146, .conv .i64 (.tmp 145), none, [6], [145]⟩,
 ⟨some 147, .bin .add (.tmp 142) (.tmp 146), none, [3, 7], [142, 146]⟩,
 ⟨some 148, .bin .neq (.tmp 140) (.tmp 147), none, [1, 8], [140, 147]⟩,
 ⟨some 149, .mv (.tmp 148), none, [9], [148]⟩,
 ⟨some 150, .mv (.tmp 14), (some ((some 149), false)), [10], [14]⟩,
 ⟨some 151, .faddr 2 (.tmp 4), (some ((some 149), false)), [10], [4]⟩,
 ⟨some 152, .iaddrA 2 1 (.tmp 151) (.cst (.int .i64 0)), (some ((some 149), false)), [12, 10], [151]⟩,
 ⟨some 153, .load false 1 (.tmp 152), (some ((some 149), false)), [13, 10], [152]⟩,
 ⟨some 154, .iaddr 3 (.tmp 150) (.tmp 153), (some ((some 149), false)), [11, 14, 10], [150, 153]⟩,
 ⟨some 155, .faddr 0 (.tmp 154), (some ((some 149), false)), [15, 10], [154]⟩,
 ⟨some 156, .load false 1 (.tmp 155), (some ((some 149), false)), [16, 10], [155]⟩,
 ⟨some 157, .bin .eql (.tmp 156) (.cst (.int .i64 0)), (some ((some 149), false)), [17, 10], [156]⟩,
 ⟨some 158, .pick (.tmp 149) (.cst (.bool true)) (.tmp 157), none, [10, 18], [149, 157]⟩,
 ⟨some 159, .mv (.tmp 158), none, [19, 10], [158]⟩,
 ⟨some 160, .mv (.tmp 14), (some ((some 159), false)), [20], [14]⟩,
 ⟨some 161, .faddr 2 (.tmp 4), (some ((some 159), false)), [20], [4]⟩,
 ⟨some 162, .iaddrA 2 1 (.tmp 161) (.cst (.int .i64 0)), (some ((some 159), false)), [22, 20], [161]⟩,
 ⟨some 163, .load false 1 (.tmp 162), (some ((some 159), false)), [23, 20], [162]⟩,
 ⟨some 164, .iaddr 3 (.tmp 160) (.tmp 163), (some ((some 159), false)), [21, 24, 20], [160, 163]⟩,
 ⟨some 165, .load true 3 (.tmp 164), (some ((some 159), false)), [25, 20], [164]⟩,
 ⟨some 166, .mv (.tmp 14), (some ((some 159), false)), [20], [14]⟩,
 ⟨some 167, .mv (.tmp 12), (some ((some 159), false)), [20], [12]⟩,
 ⟨some 168, .faddr 2 (.tmp 4), (some ((some 159), false)), [20], [4]⟩,
 ⟨some 169, .iaddrA 2 1 (.tmp 168) (.cst (.int .i64 1)), (some ((some 159), false)), [29, 20], [168]⟩,
 ⟨some 170, .load false 1 (.tmp 169), (some ((some 159), false)), [30, 20], [169]⟩,
 ⟨some 171, .bin .add (.tmp 167) (.tmp 170), (some ((some 159), false)), [28, 31, 20], [167, 170]⟩,
 ⟨some 172, .iaddr 3 (.tmp 166) (.tmp 171), (some ((some 159), false)), [27, 32, 20], [166, 171]⟩,
 ⟨some 173, .load true 3 (.tmp 172), (some ((some 159), false)), [33, 20], [172]⟩,
 ⟨some 174, .eqs true (.row [(0, 1, false, (.int .i64)), (1, 1, false, (.int .i64)), (2, 1, false, .str)]) (.tmp 165) (.tmp 173), (some ((some 159), false)), [26, 34, 20], [165, 173]⟩,
 ⟨some 175, .pick (.tmp 159) (.cst (.bool true)) (.tmp 174), none, [20, 35], [159, 174]⟩,
 ⟨some 176, .mv (.tmp 175), none, [36, 20], [175]⟩,
 ⟨some 177, .mv (.tmp 14), (some ((some 176), false)), [37], [14]⟩,
 ⟨some 178, .mv (.tmp 12), (some ((some 176), false)), [37], [12]⟩,
 ⟨some 179, .slice 3 (.tmp 177) none (some (.tmp 178)) none, (some ((some 176), false)), [38, 39, 37], [177, 178]⟩,
 ⟨some 180, .flist 1 1 [.nils] [(0, (.tmp 179))], (some ((some 176), false)), [40, 37], [179]⟩,
 ⟨some 181, .faddr 1 (.tmp 4), (some ((some 176), false)), [37], [4]⟩,
 ⟨some 182, .load false 1 (.tmp 181), (some ((some 176), false)), [42, 37], [181]⟩,
 ⟨some 183, .faddr 2 (.tmp 4), (some ((some 176), false)), [37], [4]⟩,
 ⟨some 184, .load true 2 (.tmp 183), (some ((some 176), false)), [44, 37], [183]⟩,
 ⟨some 185, .call true i_X55 [(.tmp 180), (.tmp 182), (.tmp 184)], (some ((some 176), false)), [41, 43, 45, 37, 37], [180, 182, 184]⟩,
 ⟨some 186, .field 0 1 false (.tmp 185), (some ((some 176), false)), [46, 37], [185]⟩,
 ⟨some 187, .len .sl (.tmp 186), (some ((some 176), false)), [47, 37], [186]⟩,
 ⟨some 188, .bin .neq (.tmp 187) (.cst (.int .i64 1)), (some ((some 176), false)), [48, 37], [187]⟩,
 ⟨some 189, .pick (.tmp 176) (.cst (.bool true)) (.tmp 188), none, [37, 49], [176, 188]⟩])
 (.ghost (.kill [14, 139, 140, 141, 142, 143, 144, 145, 146, 147, 148, 149, 150, 151, 152, 153, 154, 155, 156, 157, 158, 159, 160, 161, 162, 163, 164, 165, 166, 167, 168, 169, 170, 171, 172, 173, 174, 175, 176, 177, 178, 179, 180, 181, 182, 183, 184, 185, 186, 187, 188])))
 (.cond (.tmp 189) (.seq (.region false [
   ⟨some 2, .mv (.cst (.bool false)), none, [], []⟩])
  .ret)
 .skip))))
 (.ghost (.kill [189])))
 (.seq (.region false [
 ⟨some 132, .mv (.tmp 13), none, [], []⟩,
 ⟨some 133, .bin .add (.tmp 132) (.cst (.int .i64 1)), none, [], []⟩,
 ⟨some 13, .mv (.tmp 133), none, [], []⟩])
 (.ghost (.kill [132, 133])))))
def X9.c2 : ACode := (.seq (.seq (.region false [
 ⟨some 122, .faddr 2 (.tmp 1), none, [], []⟩,
 ⟨some 123, .load false 1 (.tmp 122), none, [], []⟩,
 ⟨some 124, .bin .rem (.tmp 123) (.cst (.int .u8 3)), none, [], []⟩,
 ⟨some 125, .conv .i64 (.tmp 124), none, [], []⟩,
 ⟨some 126, .bin .add (.cst (.int .i64 1)) (.tmp 125), none, [], []⟩,
 ⟨some 12, .mv (.tmp 126), none, [], []⟩])
 (.ghost (.kill [122, 123, 124, 125, 126])))
 (.seq (.seq (.region false [
 ⟨some 13, .mv (.cst (.int .i64 0)), none, [], []⟩])
 (.seq (.block 2 (.loop X9.b1))
 X9.c1))
 X9.c0))
def X9.c3 : ACode := (.seq (.region false [
 ⟨some 59, .mv (.tmp 10), none, [], []⟩,
 ⟨some 60, .bin .add (.tmp 59) (.cst (.int .i64 1)), none, [], []⟩,
 ⟨some 10, .mv (.tmp 60), none, [], []⟩])
 (.ghost (.kill [59, 60])))
def X9.b0 : ACode := (.seq (.seq (.seq (.region false [
 ⟨some 54, .mv (.tmp 10), none, [], []⟩,
 ⟨some 55, .faddr 0 (.tmp 4), none, [], []⟩,
 ⟨some 56, .load false 1 (.tmp 55), none, [], []⟩,
 ⟨some 57, .len .sl (.tmp 56), none, [], []⟩,
 ⟨some 58, .bin .lss (.tmp 54) (.tmp 57), none, [], []⟩])
 (.ghost (.kill [54, 55, 56, 57])))
 (.cond (.tmp 58) .skip
 (.exit 0)))
 (.seq (.block 1 (.seq (.seq (.region true [
 ⟨some 61, .faddr 0 (.tmp 4), none, [], [4]⟩,
 ⟨some 62, .load false 1 (.tmp 61), none, [0], [61]⟩,
 ⟨some 63, .mv (.tmp 10), none, [], [10]⟩,
 ⟨some 64, .mv (.tmp 10), none, [], [10]⟩,
 ⟨some 65, .bin .add (.tmp 64) (.cst (.int .i64 1)), none, [3], [64]⟩,
 ⟨some 66, .slice 1 (.tmp 62) (some (.tmp 63)) (some (.tmp 65)) none, none, [1, 2, 4], [62, 63, 65]⟩,
 ⟨some 67, .faddr 1 (.tmp 4), none, [], [4]⟩,
 ⟨some 68, .load false 1 (.tmp 67), none, [6], [67]⟩,
 ⟨some 69, .faddr 2 (.tmp 4), none, [], [4]⟩,
 ⟨some 70, .load true 2 (.tmp 69), none, [8], [69]⟩,
 ⟨some 71, .call true i_X36 [(.tmp 66), (.tmp 68), (.tmp 70)], none, [5, 7, 9], [66, 68, 70]⟩,
 ⟨some 72, .field 0 1 false (.tmp 71), none, [10], [71]⟩,
 ⟨some 73, .len .sl (.tmp 72), none, [11], [72]⟩,
 ⟨some 11, .mv (.tmp 73), none, [12, 10, 0, 1, 2, 3, 4, 5, 6, 7, 8, 9, 10, 11, 12], [73]⟩])
 (.ghost (.kill [58, 61, 62, 63, 64, 65, 66, 67, 68, 69, 70, 71, 72, 73])))
 (.seq (.seq (.region true [
 ⟨some 74, .mv (.tmp 11), none, [], [11]⟩,
 ⟨some 75, .bin .gtr (.tmp 74) (.cst (.int .i64 0)), none, [0], [74]⟩,
 ⟨some 76, .mv (.tmp 75), none, [1], [75]⟩,
 ⟨some 77, .mv (.tmp 8), (some ((some 76), true)), [2], [8]⟩,
 ⟨some 78, .faddr 0 (.tmp 5), (some ((some 76), true)), [2], [5]⟩,
 ⟨some 79, .load false 1 (.tmp 78), (some ((some 76), true)), [4, 2], [78]⟩,
 ⟨some 80, .len .sl (.tmp 79), (some ((some 76), true)), [5, 2], [79]⟩,
 ⟨some 81, .bin .lss (.tmp 77) (.tmp 80), (some ((some 76), true)), [3, 6, 2], [77, 80]⟩,
 ⟨some 82, .pick (.tmp 76) (.tmp 81) (.cst (.bool false)), none, [2, 7], [76, 81]⟩,
 ⟨some 83, .mv (.tmp 82), none, [8, 2], [82]⟩,
 ⟨some 84, .faddr 0 (.tmp 5), (some ((some 83), true)), [9], [5]⟩,
 ⟨some 85, .load false 1 (.tmp 84), (some ((some 83), true)), [10, 9], [84]⟩,
 ⟨some 86, .mv (.tmp 8), (some ((some 83), true)), [9], [8]⟩,
 ⟨some 87, .iaddr 1 (.tmp 85) (.tmp 86), (some ((some 83), true)), [11, 12, 9], [85, 86]⟩,
 ⟨some 88, .load false 1 (.tmp 87), (some ((some 83), true)), [13, 9], [87]⟩,
 ⟨some 89, .faddr 0 (.tmp 4), (some ((some 83), true)), [9], [4]⟩,
 ⟨some 90, .load false 1 (.tmp 89), (some ((some 83), true)), [15, 9], [89]⟩,
 ⟨some 91, .mv (.tmp 10), (some ((some 83), true)), [9], [10]⟩,
 ⟨some 92, .iaddr 1 (.tmp 90) (.tmp 91), (some ((some 83), true)), [16, 17, 9], [90, 91]⟩,
 ⟨some 93, .load false 1 (.tmp 92), (some ((some 83), true)), [18, 9], [92]⟩,
 ⟨some 94, .call true i_X59 [(.tmp 88), (.tmp 93)], (some ((some 83), true)), [14, 19, 9, 9], [88, 93]⟩,
 ⟨some 95, .pick (.tmp 83) (.tmp 94) (.cst (.bool false)), none, [9, 20], [83, 94]⟩])
 (.ghost (.kill [74, 75, 76, 77, 78, 79, 80, 81, 82, 83, 84, 85, 86, 87, 88, 89, 90, 91, 92, 93, 94])))
 (.cond (.tmp 95) (.seq (.region false [
   ⟨some 96, .mv (.tmp 8), none, [], []⟩,
   ⟨some 97, .bin .add (.tmp 96) (.cst (.int .i64 1)), none, [], []⟩,
   ⟨some 8, .mv (.tmp 97), none, [], []⟩])
  (.ghost (.kill [11, 95, 96, 97])))
 (.seq (.seq (.region true [
   ⟨some 98, .mv (.tmp 11), none, [], [11]⟩,
   ⟨some 99, .bin .eql (.tmp 98) (.cst (.int .i64 0)), none, [0], [98]⟩,
   ⟨some 100, .mv (.tmp 99), none, [1], [99]⟩,
   ⟨some 101, .mv (.tmp 9), (some ((some 100), true)), [2], [9]⟩,
   ⟨some 102, .faddr 0 (.tmp 6), (some ((some 100), true)), [2], [6]⟩,
   ⟨some 103, .load false 1 (.tmp 102), (some ((some 100), true)), [4, 2], [102]⟩,
   ⟨some 104, .len .sl (.tmp 103), (some ((some 100), true)), [5, 2], [103]⟩,
   ⟨some 105, .bin .lss (.tmp 101) (.tmp 104), (some ((some 100), true)), [3, 6, 2], [101, 104]⟩,
   ⟨some 106, .pick (.tmp 100) (.tmp 105) (.cst (.bool false)), none, [2, 7], [100, 105]⟩,
   ⟨some 107, .mv (.tmp 106), none, [8, 2], [106]⟩,
   ⟨some 108, .faddr 0 (.tmp 6), (some ((some 107), true)), [9], [6]⟩,
   ⟨some 109, .load false 1 (.tmp 108), (some ((some 107), true)), [10, 9], [108]⟩,
   ⟨some 110, .mv (.tmp 9), (some ((some 107), true)), [9], [9]⟩,
   ⟨some 111, .iaddr 1 (.tmp 109) (.tmp 110), (some ((some 107), true)), [11, 12, 9], [109, 110]⟩,
   ⟨some 112, .load false 1 (.tmp 111), (some ((some 107), true)), [13, 9], [111]⟩,
   ⟨some 113, .faddr 0 (.tmp 4), (some ((some 107), true)), [9], [4]⟩,
   ⟨some 114, .load false 1 (.tmp 113), (some ((some 107), true)), [15, 9], [113]⟩,
   ⟨some 115, .mv (.tmp 10), (some ((some 107), true)), [9], [10]⟩,
   ⟨some 116, .iaddr 1 (.tmp 114) (.tmp 115), (some ((some 107), true)), [16, 17, 9], [114, 115]⟩,
   ⟨some 117, .load false 1 (.tmp 116), (some ((some 107), true)), [18, 9], [116]⟩,
   ⟨some 118, .call true i_X59 [(.tmp 112), (.tmp 117)], (some ((some 107), true)), [14, 19, 9, 9], [112, 117]⟩,
   ⟨some 119, .pick (.tmp 107) (.tmp 118) (.cst (.bool false)), none, [9, 20], [107, 118]⟩])
  (.ghost (.kill [11, 95, 98, 99, 100, 101, 102, 103, 104, 105, 106, 107, 108, 109, 110, 111, 112, 113, 114, 115, 116, 117, 118])))
  (.cond (.tmp 119) (.seq (.region false [
    ⟨some 120, .mv (.tmp 9), none, [], []⟩,
    ⟨some 121, .bin .add (.tmp 120) (.cst (.int .i64 1)), none, [], []⟩,
    ⟨some 9, .mv (.tmp 121), none, [], []⟩])
   (.ghost (.kill [119, 120, 121])))
  (.seq (.region false [
    ⟨some 2, .mv (.cst (.bool false)), none, [], []⟩])
   .ret)))))))
 X9.c3))
def X9.main : ACode := (.seq (.seq (.region false [
 ⟨some 1, .box 6 (.tmp 0), none, [], []⟩,
 ⟨some 2, .mv (.cst (.bool false)), none, [], []⟩])
 (.ghost (.kill [0, 2])))
 (.seq (.seq (.region false [
 ⟨some 15, .call true i_X19 [], none, [], []⟩,
 ⟨some 3, .mv (.tmp 15), none, [], []⟩])
 (.ghost (.kill [15])))
 (.seq (.seq (.seq (.region false [
 ⟨some 16, .mv (.tmp 3), none, [], []⟩,
 ⟨some 17, .un .not (.tmp 16), none, [], []⟩])
 (.ghost (.kill [16])))
 (.cond (.tmp 17) (.seq (.region false [
   ⟨some 2, .mv (.cst (.bool false)), none, [], []⟩])
  .ret)
 .skip))
 (.seq (.seq (.region false [
 ⟨some 18, .load true 6 (.tmp 1), none, [], []⟩,
 ⟨some 19, .call true i_X62 [(.tmp 18)], none, [], []⟩,
 ⟨some 4, .alloc [.nils, .nils, (.int .i64 0), (.int .i64 0)], none, [], []⟩,
 ⟨none, .store 4 (.tmp 4) (.tmp 19), none, [], []⟩])
 (.ghost (.kill [17, 18, 19])))
 (.seq (.seq (.region true [
 ⟨some 20, .faddr 0 (.tmp 4), none, [], [4]⟩,
 ⟨some 21, .load false 1 (.tmp 20), none, [0], [20]⟩,
 ⟨some 22, .faddr 1 (.tmp 4), none, [], [4]⟩,
 ⟨some 23, .load false 1 (.tmp 22), none, [2], [22]⟩,
 ⟨some 24, .faddr 2 (.tmp 4), none, [], [4]⟩,
 ⟨some 25, .load true 2 (.tmp 24), none, [4], [24]⟩,
 ⟨some 26, .call true i_X55 [(.tmp 21), (.tmp 23), (.tmp 25)], none, [1, 3, 5], [21, 23, 25]⟩,
 ⟨some 27, .faddr 0 (.tmp 4), none, [], [4]⟩,
 ⟨some 28, .load false 1 (.tmp 27), none, [7], [27]⟩,
 ⟨some 29, .faddr 1 (.tmp 4), none, [], [4]⟩,
 ⟨some 30, .load false 1 (.tmp 29), none, [9], [29]⟩,
 ⟨some 31, .faddr 2 (.tmp 4), none, [], [4]⟩,
 ⟨some 32, .load true 2 (.tmp 31), none, [11], [31]⟩,
 ⟨some 33, .call true i_X61 [(.tmp 28), (.tmp 30), (.tmp 32)], none, [8, 10, 12, 6], [28, 30, 32]⟩,
 ⟨some 34, .faddr 0 (.tmp 4), none, [], [4]⟩,
 ⟨some 35, .load false 1 (.tmp 34), none, [14], [34]⟩,
 ⟨some 36, .faddr 1 (.tmp 4), none, [], [4]⟩,
 ⟨some 37, .load false 1 (.tmp 36), none, [16], [36]⟩,
 ⟨some 38, .faddr 2 (.tmp 4), none, [], [4]⟩,
 ⟨some 39, .load true 2 (.tmp 38), none, [18], [38]⟩,
 ⟨some 40, .call true i_X36 [(.tmp 35), (.tmp 37), (.tmp 39)], none, [15, 17, 19, 13], [35, 37, 39]⟩,
 ⟨some 5, .alloc [.nils, (.int .i64 0)], none, [], []⟩,
 ⟨some 6, .alloc [.nils, (.int .i64 0)], none, [], []⟩,
 ⟨some 7, .alloc [.nils, (.int .i64 0)], none, [], []⟩,
 ⟨none, .store 2 (.tmp 5) (.tmp 26), none, [21, 6, 20, 0, 1, 2, 3, 4, 5, 6, 21, 22, 23], [5, 26]⟩,
 ⟨none, .store 2 (.tmp 6) (.tmp 33), none, [22, 13, 24, 0, 1, 2, 3, 4, 5, 6, 7, 8, 9, 10, 11, 12, 13, 21, 22, 23, 24], [6, 33]⟩,
 ⟨none, .store 2 (.tmp 7) (.tmp 40), none, [23, 20, 25, 0, 1, 2, 3, 4, 5, 6, 7, 8, 9, 10, 11, 12, 13, 14, 15, 16, 17, 18, 19, 20, 21, 22, 23, 24, 25], [7, 40]⟩])
 (.ghost (.kill [20, 21, 22, 23, 24, 25, 26, 27, 28, 29, 30, 31, 32, 33, 34, 35, 36, 37, 38, 39, 40])))
 (.seq (.seq (.seq (.region false [
 ⟨some 41, .faddr 1 (.tmp 5), none, [], []⟩,
 ⟨some 42, .load false 1 (.tmp 41), none, [], []⟩,
 ⟨some 43, .bin .neq (.tmp 42) (.cst (.int .i64 0)), none, [], []⟩,
 ⟨some 44, .mv (.tmp 43), none, [], []⟩,
 ⟨some 45, .faddr 1 (.tmp 6), (some ((some 44), false)), [], []⟩,
 ⟨some 46, .load false 1 (.tmp 45), (some ((some 44), false)), [], []⟩,
 ⟨some 47, .bin .neq (.tmp 46) (.cst (.int .i64 0)), (some ((some 44), false)), [], []⟩,
 ⟨some 48, .pick (.tmp 44) (.cst (.bool true)) (.tmp 47), none, [], []⟩,
 ⟨some 49, .mv (.tmp 48), none, [], []⟩,
 ⟨some 50, .faddr 1 (.tmp 7), (some ((some 49), false)), [], []⟩,
 ⟨some 51, .load false 1 (.tmp 50), (some ((some 49), false)), [], []⟩,
 ⟨some 52, .bin .neq (.tmp 51) (.cst (.int .i64 0)), (some ((some 49), false)), [], []⟩,
 ⟨some 53, .pick (.tmp 49) (.cst (.bool true)) (.tmp 52), none, [], []⟩])
 (.ghost (.kill [41, 42, 43, 44, 45, 46, 47, 48, 49, 50, 51, 52])))
 (.cond (.tmp 53) (.seq (.region false [
   ⟨some 2, .mv (.cst (.bool false)), none, [], []⟩])
  .ret)
 .skip))
 (.seq (.seq (.region false [
 ⟨some 8, .mv (.cst (.int .i64 0)), none, [], []⟩,
 ⟨some 9, .mv (.cst (.int .i64 0)), none, [], []⟩])
 (.ghost (.kill [53])))
 (.seq (.seq (.region false [
 ⟨some 10, .mv (.cst (.int .i64 0)), none, [], []⟩])
 (.seq (.block 0 (.loop X9.b0))
 (.ghost (.kill [10, 58]))))
 X9.c2))))))))
def X9.k1 : List Item := [.inBlock 2, .code X9.c1, .code X9.c0]
def X9.k0 : List Item := [.inBlock 0, .code (.ghost (.kill [10, 58])), .code X9.c2]
def X9 : AFunc := ⟨205, [.tmp 2], X9.main, false⟩
def X14.c0 : ACode := (.seq (.region false [
 ⟨some 115, .faddr 1 (.tmp 6), none, [], []⟩,
 ⟨some 116, .load false 1 (.tmp 115), none, [], []⟩,
 ⟨some 117, .bin .eql (.tmp 116) (.cst (.int .i64 0)), none, [], []⟩,
 ⟨some 118, .mv (.tmp 117), none, [], []⟩,
 ⟨some 119, .faddr 1 (.tmp 7), (some ((some 118), true)), [], []⟩,
 ⟨some 120, .load false 1 (.tmp 119), (some ((some 118), true)), [], []⟩,
 ⟨some 121, .bin .eql (.tmp 120) (.cst (.int .i64 0)), (some ((some 118), true)), [], []⟩,
 ⟨some 122, .pick (.tmp 118) (.tmp 121) (.cst (.bool false)), none, [], []⟩,
 ⟨some 123, .mv (.tmp 122), none, [], []⟩,
 ⟨some 124, .mv (.tmp 8), (some ((some 123), true)), [], []⟩,
 ⟨some 125, .faddr 0 (.tmp 6), (some ((some 123), true)), [], []⟩,
 ⟨some 126, .load false 1 (.tmp 125), (some ((some 123), true)), [], []⟩,
 ⟨some 127, .len .sl (.tmp 126), (some ((some 123), true)), [], []⟩,
 ⟨some 128, .bin .eql (.tmp 124) (.tmp 127), (some ((some 123), true)), [], []⟩,
 ⟨some 129, .pick (.tmp 123) (.tmp 128) (.cst (.bool false)), none, [], []⟩,
 ⟨some 130, .mv (.tmp 129), none, [], []⟩,
 ⟨some 131, .mv (.tmp 9), (some ((some 130), true)), [], []⟩,
 ⟨some 132, .faddr 0 (.tmp 7), (some ((some 130), true)), [], []⟩,
 ⟨some 133, .load false 1 (.tmp 132), (some ((some 130), true)), [], []⟩,
 ⟨some 134, .call true i_X23 [(.tmp 131), (.tmp 133)], (some ((some 130), true)), [], []⟩,
 ⟨some 135, .pick (.tmp 130) (.tmp 134) (.cst (.bool false)), none, [], []⟩,
 ⟨some 136, .mv (.tmp 135), none, [], []⟩,
 ⟨some 137, .mv (.tmp 3), (some ((some 136), true)), [], []⟩,
 ⟨some 138, .pick (.tmp 136) (.tmp 137) (.cst (.bool false)), none, [], []⟩,
 ⟨some 2, .mv (.tmp 138), none, [], []⟩])
 .ret)
def X14.c1 : ACode := (.ghost (.kill [4, 5, 10, 38]))
def X14.c2 : ACode := (.seq (.region false [
 ⟨some 39, .mv (.tmp 10), none, [], []⟩,
 ⟨some 40, .bin .add (.tmp 39) (.cst (.int .i64 1)), none, [], []⟩,
 ⟨some 10, .mv (.tmp 40), none, [], []⟩])
 (.ghost (.kill [39, 40])))
def X14.b1 : ACode := (.seq (.seq (.seq (.region false [
 ⟨some 81, .mv (.tmp 12), none, [], []⟩,
 ⟨some 82, .mv (.tmp 11), none, [], []⟩,
 ⟨some 83, .len .sl (.tmp 82), none, [], []⟩,
 ⟨some 84, .bin .lss (.tmp 81) (.tmp 83), none, [], []⟩])
 (.ghost (.kill [81, 82, 83])))
 (.cond (.tmp 84) .skip
 (.exit 2)))
 (.seq (.trunc (.block 3 (.seq (.seq (.seq (.region true [
 ⟨some 87, .mv (.tmp 8), none, [], [8]⟩,
 ⟨some 88, .faddr 0 (.tmp 6), none, [], [6]⟩,
 ⟨some 89, .load false 1 (.tmp 88), none, [1], [88]⟩,
 ⟨some 90, .len .sl (.tmp 89), none, [2], [89]⟩,
 ⟨some 91, .bin .geq (.tmp 87) (.tmp 90), none, [0, 3], [87, 90]⟩,
 ⟨some 92, .mv (.tmp 91), none, [4], [91]⟩,
 ⟨some 93, .faddr 0 (.tmp 6), (some ((some 92), false)), [5], [6]⟩,
 ⟨some 94, .load false 1 (.tmp 93), (some ((some 92), false)), [6, 5], [93]⟩,
 ⟨some 95, .mv (.tmp 8), (some ((some 92), false)), [5], [8]⟩,
 ⟨some 96, .iaddr 1 (.tmp 94) (.tmp 95), (some ((some 92), false)), [7, 8, 5], [94, 95]⟩,
 ⟨some 97, .load false 1 (.tmp 96), (some ((some 92), false)), [9, 5], [96]⟩,
 ⟨some 98, .mv (.tmp 11), (some ((some 92), false)), [5], [11]⟩,
 ⟨some 99, .mv (.tmp 12), (some ((some 92), false)), [5], [12]⟩,
 ⟨some 100, .iaddr 1 (.tmp 98) (.tmp 99), (some ((some 92), false)), [11, 12, 5], [98, 99]⟩,
 ⟨some 101, .load false 1 (.tmp 100), (some ((some 92), false)), [13, 5], [100]⟩,
 ⟨some 102, .call true i_X59 [(.tmp 97), (.tmp 101)], (some ((some 92), false)), [10, 14, 5, 5], [97, 101]⟩,
 ⟨some 103, .un .not (.tmp 102), (some ((some 92), false)), [15, 5], [102]⟩,
 ⟨some 104, .pick (.tmp 92) (.cst (.bool true)) (.tmp 103), none, [5, 16], [92, 103]⟩])
 (.ghost (.kill [84, 87, 88, 89, 90, 91, 92, 93, 94, 95, 96, 97, 98, 99, 100, 101, 102, 103])))
 (.cond (.tmp 104) (.seq (.region false [
   ⟨some 2, .mv (.cst (.bool false)), none, [], []⟩])
  .ret)
 .skip))
 (.seq (.seq (.region false [
 ⟨some 105, .mv (.tmp 9), none, [], []⟩,
 ⟨some 106, .faddr 0 (.tmp 6), none, [], []⟩,
 ⟨some 107, .load false 1 (.tmp 106), none, [], []⟩,
 ⟨some 108, .mv (.tmp 8), none, [], []⟩,
 ⟨some 109, .iaddr 1 (.tmp 107) (.tmp 108), none, [], []⟩,
 ⟨some 110, .load false 1 (.tmp 109), none, [], []⟩,
 ⟨some 111, .bslice 1 1 [.nils] [(0, (.tmp 110))], none, [], []⟩,
 ⟨some 112, .append 1 24 (.tmp 105) (.tmp 111), none, [], []⟩,
 ⟨some 9, .mv (.tmp 112), none, [], []⟩])
 (.ghost (.kill [104, 105, 106, 107, 108, 109, 110, 111, 112])))
 (.seq (.region false [
 ⟨some 113, .mv (.tmp 8), none, [], []⟩,
 ⟨some 114, .bin .add (.tmp 113) (.cst (.int .i64 1)), none, [], []⟩,
 ⟨some 8, .mv (.tmp 114), none, [], []⟩])
 (.ghost (.kill [113, 114])))))))
 (.seq (.region false [
 ⟨some 85, .mv (.tmp 12), none, [], []⟩,
 ⟨some 86, .bin .add (.tmp 85) (.cst (.int .i64 1)), none, [], []⟩,
 ⟨some 12, .mv (.tmp 86), none, [], []⟩])
 (.ghost (.kill [85, 86])))))
def X14.c3 : ACode := (.seq (.region false [
 ⟨some 12, .mv (.cst (.int .i64 0)), none, [], []⟩])
 (.seq (.block 2 (.loop X14.b1))
 (.ghost (.kill [11, 12, 84]))))
def X14.b0 : ACode := (.seq (.seq (.seq (.region false [
 ⟨some 34, .mv (.tmp 10), none, [], []⟩,
 ⟨some 35, .faddr 0 (.tmp 4), none, [], []⟩,
 ⟨some 36, .load false 1 (.tmp 35), none, [], []⟩,
 ⟨some 37, .len .sl (.tmp 36), none, [], []⟩,
 ⟨some 38, .bin .lss (.tmp 34) (.tmp 37), none, [], []⟩])
 (.ghost (.kill [34, 35, 36, 37])))
 (.cond (.tmp 38) .skip
 (.exit 0)))
 (.seq (.trunc (.block 1 (.seq (.seq (.region true [
 ⟨some 41, .faddr 0 (.tmp 4), none, [], [4]⟩,
 ⟨some 42, .load false 1 (.tmp 41), none, [0], [41]⟩,
 ⟨some 43, .mv (.tmp 10), none, [], [10]⟩,
 ⟨some 44, .mv (.tmp 10), none, [], [10]⟩,
 ⟨some 45, .bin .add (.tmp 44) (.cst (.int .i64 1)), none, [3], [44]⟩,
 ⟨some 46, .slice 1 (.tmp 42) (some (.tmp 43)) (some (.tmp 45)) none, none, [1, 2, 4], [42, 43, 45]⟩,
 ⟨some 47, .faddr 1 (.tmp 4), none, [], [4]⟩,
 ⟨some 48, .load false 1 (.tmp 47), none, [6], [47]⟩,
 ⟨some 49, .faddr 2 (.tmp 4), none, [], [4]⟩,
 ⟨some 50, .load true 2 (.tmp 49), none, [8], [49]⟩,
 ⟨some 51, .call true i_X36 [(.tmp 46), (.tmp 48), (.tmp 50)], none, [5, 7, 9], [46, 48, 50]⟩,
 ⟨some 52, .field 0 1 false (.tmp 51), none, [10], [51]⟩,
 ⟨some 11, .mv (.tmp 52), none, [11, 10, 0, 1, 2, 3, 4, 5, 6, 7, 8, 9, 10, 11], [52]⟩])
 (.ghost (.kill [38, 41, 42, 43, 44, 45, 46, 47, 48, 49, 50, 51, 52])))
 (.seq (.seq (.seq (.region false [
 ⟨some 53, .mv (.tmp 11), none, [], []⟩,
 ⟨some 54, .len .sl (.tmp 53), none, [], []⟩,
 ⟨some 55, .bin .eql (.tmp 54) (.cst (.int .i64 0)), none, [], []⟩])
 (.ghost (.kill [53, 54])))
 (.seq (.cond (.tmp 55) (.seq (.seq (.seq (.regionD ⟨[67, 73], [], [([67], [62, 63, 64, 65]), ([73], [62, 63, 64, 65])]⟩ [
   ⟨some 56, .mv (.tmp 8), none, [], [8]⟩,
   ⟨some 57, .faddr 0 (.tmp 6), none, [], [6]⟩,
   ⟨some 58, .load false 1 (.tmp 57), none, [1], [57]⟩,
   ⟨some 59, .len .sl (.tmp 58), none, [2], [58]⟩,
   ⟨some 60, .bin .geq (.tmp 56) (.tmp 59), none, [0, 3], [56, 59]⟩,
   ⟨some 61, .mv (.tmp 60), none, [4], [60]⟩,
   ⟨some 62, .faddr 0 (.tmp 6), (some ((some 61), false)), [5], [6]⟩,
   ⟨some 63, .load false 1 (.tmp 62), (some ((some 61), false)), [6, 5], [62]⟩,
   ⟨some 64, .mv (.tmp 8), (some ((some 61), false)), [5], [8]⟩,
   ⟨some 65, .iaddr 1 (.tmp 63) (.tmp 64), (some ((some 61), false)), [7, 8, 5], [63, 64]⟩,
   ⟨some 66, .load false 1 (.tmp 65), (some ((some 61), false)), [9, 5], [65]⟩,
   ⟨some 67, .bslice 3 0 [(.int .i64 0), (.int .i64 0), (.str ⟨#[]⟩)] [], (some ((some 61), false)), [5], []⟩,
   ⟨some 68, .faddr 0 (.tmp 4), (some ((some 61), false)), [5], [4]⟩,
   ⟨some 69, .load false 1 (.tmp 68), (some ((some 61), false)), [12, 5], [68]⟩,
   ⟨some 70, .mv (.tmp 10), (some ((some 61), false)), [5], [10]⟩,
   ⟨some 71, .iaddr 1 (.tmp 69) (.tmp 70), (some ((some 61), false)), [13, 14, 5], [69, 70]⟩,
   ⟨some 72, .load false 1 (.tmp 71), (some ((some 61), false)), [15, 5], [71]⟩,
   ⟨some 73, .append 3 32 (.tmp 67) (.tmp 72), (some ((some 61), false)), [11, 16, 5, 5], [67, 72]⟩,
   ⟨some 74, .mv (.tmp 5), (some ((some 61), false)), [5], [5]⟩,
   ⟨some 75, .appendz 3 32 [(.int .i64 0), (.int .i64 0), (.str ⟨#[]⟩)] (.tmp 73) (.tmp 74), (some ((some 61), false)), [17, 18, 17, 5], [73, 74]⟩,
   ⟨some 76, .call true i_X59 [(.tmp 66), (.tmp 75)], (some ((some 61), false)), [10, 19, 19, 5], [66, 75]⟩,
   ⟨some 77, .un .not (.tmp 76), (some ((some 61), false)), [20, 5], [76]⟩,
   ⟨some 78, .pick (.tmp 61) (.cst (.bool true)) (.tmp 77), none, [5, 21], [61, 77]⟩])
  (.ghost (.kill [55, 56, 57, 58, 59, 60, 61, 62, 63, 64, 65, 66, 67, 68, 69, 70, 71, 72, 73, 74, 75, 76, 77])))
  (.cond (.tmp 78) (.seq (.region false [
    ⟨some 2, .mv (.cst (.bool false)), none, [], []⟩])
   .ret)
  .skip))
  (.seq (.region false [
   ⟨some 79, .mv (.tmp 8), none, [], []⟩,
   ⟨some 80, .bin .add (.tmp 79) (.cst (.int .i64 1)), none, [], []⟩,
   ⟨some 8, .mv (.tmp 80), none, [], []⟩])
  (.ghost (.kill [78, 79, 80]))))
 .skip)
 (.ghost (.kill [55]))))
 X14.c3))))
 X14.c2))
def X14.main : ACode := (.seq (.seq (.region false [
 ⟨some 1, .box 6 (.tmp 0), none, [], []⟩,
 ⟨some 2, .mv (.cst (.bool false)), none, [], []⟩])
 (.ghost (.kill [0, 2])))
 (.seq (.seq (.region false [
 ⟨some 13, .call true i_X19 [], none, [], []⟩,
 ⟨some 3, .mv (.tmp 13), none, [], []⟩])
 (.ghost (.kill [13])))
 (.seq (.seq (.seq (.region false [
 ⟨some 14, .mv (.tmp 3), none, [], []⟩,
 ⟨some 15, .un .not (.tmp 14), none, [], []⟩])
 (.ghost (.kill [14])))
 (.cond (.tmp 15) (.seq (.region false [
   ⟨some 2, .mv (.cst (.bool false)), none, [], []⟩])
  .ret)
 .skip))
 (.seq (.seq (.region false [
 ⟨some 16, .load true 6 (.tmp 1), none, [], []⟩,
 ⟨some 17, .call true i_X62 [(.tmp 16)], none, [], []⟩,
 ⟨some 4, .alloc [.nils, .nils, (.int .i64 0), (.int .i64 0)], none, [], []⟩,
 ⟨none, .store 4 (.tmp 4) (.tmp 17), none, [], []⟩])
 (.ghost (.kill [15, 16, 17])))
 (.seq (.seq (.region false [
 ⟨some 18, .faddr 3 (.tmp 1), none, [], []⟩,
 ⟨some 19, .load false 1 (.tmp 18), none, [], []⟩,
 ⟨some 20, .bin .rem (.tmp 19) (.cst (.int .u8 3)), none, [], []⟩,
 ⟨some 21, .conv .i64 (.tmp 20), none, [], []⟩,
 ⟨some 22, .bin .add (.cst (.int .i64 1)) (.tmp 21), none, [], []⟩,
 ⟨some 5, .mv (.tmp 22), none, [], []⟩])
 (.ghost (.kill [1, 18, 19, 20, 21, 22])))
 (.seq (.seq (.region true [
 ⟨some 23, .load true 4 (.tmp 4), none, [], [4]⟩,
 ⟨some 24, .mv (.tmp 5), none, [], [5]⟩,
 ⟨some 25, .call true i_X49 [(.tmp 23), (.tmp 24)], none, [0, 1], [23, 24]⟩,
 ⟨some 26, .faddr 0 (.tmp 4), none, [], [4]⟩,
 ⟨some 27, .load false 1 (.tmp 26), none, [3], [26]⟩,
 ⟨some 28, .faddr 1 (.tmp 4), none, [], [4]⟩,
 ⟨some 29, .load false 1 (.tmp 28), none, [5], [28]⟩,
 ⟨some 30, .faddr 2 (.tmp 4), none, [], [4]⟩,
 ⟨some 31, .load true 2 (.tmp 30), none, [7], [30]⟩,
 ⟨some 32, .call true i_X36 [(.tmp 27), (.tmp 29), (.tmp 31)], none, [4, 6, 8, 2], [27, 29, 31]⟩,
 ⟨some 6, .alloc [.nils, (.int .i64 0)], none, [], []⟩,
 ⟨some 7, .alloc [.nils, (.int .i64 0)], none, [], []⟩,
 ⟨none, .store 2 (.tmp 6) (.tmp 25), none, [10, 2, 9, 0, 1, 2, 10, 11], [6, 25]⟩,
 ⟨none, .store 2 (.tmp 7) (.tmp 32), none, [11, 9, 12, 0, 1, 2, 3, 4, 5, 6, 7, 8, 9, 10, 11, 12], [7, 32]⟩])
 (.ghost (.kill [23, 24, 25, 26, 27, 28, 29, 30, 31, 32])))
 (.seq (.seq (.region false [
 ⟨some 33, .bslice 1 0 [.nils] [], none, [], []⟩,
 ⟨some 8, .mv (.cst (.int .i64 0)), none, [], []⟩,
 ⟨some 9, .mv (.tmp 33), none, [], []⟩])
 (.ghost (.kill [33])))
 (.seq (.seq (.region false [
 ⟨some 10, .mv (.cst (.int .i64 0)), none, [], []⟩])
 (.seq (.block 0 (.loop X14.b0))
 X14.c1))
 X14.c0))))))))
def X14.k1 (m0 : Nat) : List Item := [.inBlock 2, .code (.ghost (.kill [11, 12, 84])), .inBlock 1, .inTrunc m0, .code X14.c2, .inLoop X14.b0, .inBlock 0, .code X14.c1, .code X14.c0]
def X14.k0 : List Item := [.inBlock 0, .code X14.c1, .code X14.c0]
def X14 : AFunc := ⟨139, [.tmp 2], X14.main, false⟩
def X19.main : ACode := (.seq (.seq (.region false [
 ⟨some 0, .mv (.cst (.bool false)), none, [], []⟩])
 (.ghost (.kill [0])))
 (.seq (.seq (.region false [
 ⟨some 8, .call true i_X47 [(.cst (.int .i64 1))], none, [], []⟩,
 ⟨some 9, .call true i_X47 [(.cst (.int .i64 2))], none, [], []⟩,
 ⟨some 1, .alloc [(.int .i64 0), (.int .i64 0), (.str ⟨#[]⟩)], none, [], []⟩,
 ⟨some 2, .alloc [(.int .i64 0), (.int .i64 0), (.str ⟨#[]⟩)], none, [], []⟩,
 ⟨none, .store 3 (.tmp 1) (.tmp 8), none, [], []⟩,
 ⟨none, .store 3 (.tmp 2) (.tmp 9), none, [], []⟩])
 (.ghost (.kill [8, 9])))
 (.seq (.seq (.region true [
 ⟨some 10, .load true 3 (.tmp 1), none, [], [1]⟩,
 ⟨some 11, .call true i_X68 [(.cst (.str ⟨#[97]⟩))], none, [], []⟩,
 ⟨some 12, .flist 3 2 [(.int .i64 0), (.int .i64 0), (.str ⟨#[]⟩)] [(0, (.tmp 10)), (1, (.tmp 11))], none, [0, 1], [10, 11]⟩,
 ⟨some 13, .load true 3 (.tmp 2), none, [], [2]⟩,
 ⟨some 14, .call true i_X68 [(.cst (.str ⟨#[98]⟩))], none, [1], []⟩,
 ⟨some 15, .flist 3 2 [(.int .i64 0), (.int .i64 0), (.str ⟨#[]⟩)] [(0, (.tmp 13)), (1, (.tmp 14))], none, [3, 4], [13, 14]⟩,
 ⟨some 16, .build [(.int .i64 0), (.int .i64 0), (.str ⟨#[]⟩)] [], none, [], []⟩,
 ⟨some 17, .call true i_X68 [(.cst (.str ⟨#[99]⟩))], none, [4], []⟩,
 ⟨some 18, .flist 3 2 [(.int .i64 0), (.int .i64 0), (.str ⟨#[]⟩)] [(0, (.tmp 16)), (1, (.tmp 17))], none, [6, 7], [16, 17]⟩,
 ⟨some 19, .flist 1 3 [.nils] [(0, (.tmp 12)), (1, (.tmp 15)), (2, (.tmp 18))], none, [2, 5, 8], [12, 15, 18]⟩,
 ⟨some 3, .mv (.tmp 19), none, [9, 7, 0, 1, 2, 3, 4, 5, 6, 7, 8, 9], [19]⟩])
 (.ghost (.kill [10, 11, 12, 13, 14, 15, 16, 17, 18, 19])))
 (.seq (.seq (.region true [
 ⟨some 20, .load true 3 (.tmp 2), none, [], [2]⟩,
 ⟨some 21, .call true i_X47 [(.cst (.int .i64 7))], none, [], []⟩,
 ⟨some 22, .flist 3 2 [(.int .i64 0), (.int .i64 0), (.str ⟨#[]⟩)] [(0, (.tmp 20)), (1, (.tmp 21))], none, [0, 1], [20, 21]⟩,
 ⟨some 23, .load true 3 (.tmp 2), none, [], [2]⟩,
 ⟨some 24, .call true i_X47 [(.cst (.int .i64 8))], none, [1], []⟩,
 ⟨some 25, .flist 3 2 [(.int .i64 0), (.int .i64 0), (.str ⟨#[]⟩)] [(0, (.tmp 23)), (1, (.tmp 24))], none, [3, 4], [23, 24]⟩,
 ⟨some 26, .build [(.int .i64 0), (.int .i64 0), (.str ⟨#[]⟩)] [], none, [], []⟩,
 ⟨some 27, .call true i_X47 [(.cst (.int .i64 9))], none, [4], []⟩,
 ⟨some 28, .flist 3 2 [(.int .i64 0), (.int .i64 0), (.str ⟨#[]⟩)] [(0, (.tmp 26)), (1, (.tmp 27))], none, [6, 7], [26, 27]⟩,
 ⟨some 29, .flist 1 3 [.nils] [(0, (.tmp 22)), (1, (.tmp 25)), (2, (.tmp 28))], none, [2, 5, 8], [22, 25, 28]⟩,
 ⟨some 4, .mv (.tmp 29), none, [9, 7, 0, 1, 2, 3, 4, 5, 6, 7, 8, 9], [29]⟩])
 (.ghost (.kill [20, 21, 22, 23, 24, 25, 26, 27, 28, 29])))
 (.seq (.seq (.region true [
 ⟨some 30, .load true 3 (.tmp 2), none, [], [2]⟩,
 ⟨some 31, .call true i_X68 [(.cst (.str ⟨#[98]⟩))], none, [], []⟩,
 ⟨some 32, .load true 3 (.tmp 2), none, [], [2]⟩,
 ⟨some 33, .call true i_X47 [(.cst (.int .i64 7))], none, [1], []⟩,
 ⟨some 34, .flist 3 4 [(.int .i64 0), (.int .i64 0), (.str ⟨#[]⟩)] [(0, (.tmp 30)), (1, (.tmp 31)), (2, (.tmp 32)), (3, (.tmp 33))], none, [0, 1, 2, 3], [30, 31, 32, 33]⟩,
 ⟨some 35, .load true 3 (.tmp 2), none, [], [2]⟩,
 ⟨some 36, .call true i_X68 [(.cst (.str ⟨#[98]⟩))], none, [3], []⟩,
 ⟨some 37, .load true 3 (.tmp 2), none, [], [2]⟩,
 ⟨some 38, .call true i_X47 [(.cst (.int .i64 8))], none, [6], []⟩,
 ⟨some 39, .flist 3 4 [(.int .i64 0), (.int .i64 0), (.str ⟨#[]⟩)] [(0, (.tmp 35)), (1, (.tmp 36)), (2, (.tmp 37)), (3, (.tmp 38))], none, [5, 6, 7, 8], [35, 36, 37, 38]⟩,
 ⟨some 40, .flist 1 2 [.nils] [(0, (.tmp 34)), (1, (.tmp 39))], none, [4, 9], [34, 39]⟩,
 ⟨some 41, .build [.nils, (.int .i64 0)] [(0, 1, (.tmp 40))], none, [10], [40]⟩,
 ⟨some 5, .alloc [.nils, (.int .i64 0)], none, [], []⟩,
 ⟨none, .store 2 (.tmp 5) (.tmp 41), none, [12, 11, 8, 0, 1, 2, 3, 4, 5, 6, 7, 8, 9, 10, 11, 12], [5, 41]⟩])
 (.ghost (.kill [2, 30, 31, 32, 33, 34, 35, 36, 37, 38, 39, 40, 41])))
 (.seq (.seq (.region false [
 ⟨some 42, .build [(.int .i64 0), (.int .i64 0)] [(0, 1, (.cst (.int .i64 0))), (1, 1, (.cst (.int .i64 0)))], none, [], []⟩,
 ⟨some 6, .alloc [(.int .i64 0), (.int .i64 0)], none, [], []⟩,
 ⟨none, .store 2 (.tmp 6) (.tmp 42), none, [], []⟩])
 (.ghost (.kill [42])))
 (.seq (.seq (.region false [
 ⟨some 43, .mv (.tmp 3), none, [], []⟩,
 ⟨some 44, .mv (.tmp 4), none, [], []⟩,
 ⟨some 45, .build [.nils, .nils, (.int .i64 0), (.int .i64 0)] [(0, 1, (.tmp 43)), (1, 1, (.tmp 44))], none, [], []⟩,
 ⟨some 46, .call true i_X49 [(.tmp 45), (.cst (.int .i64 2))], none, [], []⟩,
 ⟨some 7, .alloc [.nils, (.int .i64 0)], none, [], []⟩,
 ⟨none, .store 2 (.tmp 7) (.tmp 46), none, [], []⟩])
 (.ghost (.kill [43, 44, 45, 46])))
 (.seq (.region true [
 ⟨some 47, .mv (.tmp 3), none, [], [3]⟩,
 ⟨some 48, .mv (.tmp 4), none, [], [4]⟩,
 ⟨some 49, .load true 2 (.tmp 6), none, [], [6]⟩,
 ⟨some 50, .call true i_X36 [(.tmp 47), (.tmp 48), (.tmp 49)], none, [0, 1, 2], [47, 48, 49]⟩,
 ⟨some 51, .load true 2 (.tmp 5), none, [], [5]⟩,
 ⟨some 52, .call true i_X56 [(.tmp 50), (.tmp 51)], none, [3, 4, 3], [50, 51]⟩,
 ⟨some 53, .mv (.tmp 52), none, [5, 5], [52]⟩,
 ⟨some 54, .mv (.tmp 3), (some ((some 53), true)), [6], [3]⟩,
 ⟨some 55, .mv (.tmp 4), (some ((some 53), true)), [6], [4]⟩,
 ⟨some 56, .load true 2 (.tmp 6), (some ((some 53), true)), [6], [6]⟩,
 ⟨some 57, .call true i_X58 [(.tmp 54), (.tmp 55), (.tmp 56)], (some ((some 53), true)), [7, 8, 9, 6, 6], [54, 55, 56]⟩,
 ⟨some 58, .load true 2 (.tmp 5), (some ((some 53), true)), [6], [5]⟩,
 ⟨some 59, .call true i_X56 [(.tmp 57), (.tmp 58)], (some ((some 53), true)), [10, 11, 10, 6], [57, 58]⟩,
 ⟨some 60, .pick (.tmp 53) (.tmp 59) (.cst (.bool false)), none, [6, 12], [53, 59]⟩,
 ⟨some 61, .mv (.tmp 60), none, [13, 12], [60]⟩,
 ⟨some 62, .mv (.tmp 3), (some ((some 61), true)), [14], [3]⟩,
 ⟨some 63, .mv (.tmp 4), (some ((some 61), true)), [14], [4]⟩,
 ⟨some 64, .load true 2 (.tmp 6), (some ((some 61), true)), [14], [6]⟩,
 ⟨some 65, .call true i_X39 [(.tmp 62), (.tmp 63), (.tmp 64)], (some ((some 61), true)), [15, 16, 17, 14, 14], [62, 63, 64]⟩,
 ⟨some 66, .field 1 1 false (.tmp 65), (some ((some 61), true)), [18, 14], [65]⟩,
 ⟨some 67, .bin .eql (.tmp 66) (.cst (.int .i64 1)), (some ((some 61), true)), [19, 14], [66]⟩,
 ⟨some 68, .pick (.tmp 61) (.tmp 67) (.cst (.bool false)), none, [14, 20], [61, 67]⟩,
 ⟨some 69, .mv (.tmp 68), none, [21, 18], [68]⟩,
 ⟨some 70, .mv (.tmp 3), (some ((some 69), true)), [22], [3]⟩,
 ⟨some 71, .slice 1 (.tmp 70) none (some (.cst (.int .i64 2))) none, (some ((some 69), true)), [23, 22], [70]⟩,
 ⟨some 72, .mv (.tmp 4), (some ((some 69), true)), [22], [4]⟩,
 ⟨some 73, .slice 1 (.tmp 72) none (some (.cst (.int .i64 2))) none, (some ((some 69), true)), [25, 22], [72]⟩,
 ⟨some 74, .load true 2 (.tmp 6), (some ((some 69), true)), [22], [6]⟩,
 ⟨some 75, .call true i_X39 [(.tmp 71), (.tmp 73), (.tmp 74)], (some ((some 69), true)), [24, 26, 27, 22, 22], [71, 73, 74]⟩,
 ⟨some 76, .load true 2 (.tmp 5), (some ((some 69), true)), [22], [5]⟩,
 ⟨some 77, .call true i_X56 [(.tmp 75), (.tmp 76)], (some ((some 69), true)), [28, 29, 28, 22], [75, 76]⟩,
 ⟨some 78, .pick (.tmp 69) (.tmp 77) (.cst (.bool false)), none, [22, 30], [69, 77]⟩,
 ⟨some 79, .mv (.tmp 78), none, [31, 30], [78]⟩,
 ⟨some 80, .mv (.tmp 3), (some ((some 79), true)), [32], [3]⟩,
 ⟨some 81, .mv (.tmp 4), (some ((some 79), true)), [32], [4]⟩,
 ⟨some 82, .load true 2 (.tmp 6), (some ((some 79), true)), [32], [6]⟩,
 ⟨some 83, .call true i_X61 [(.tmp 80), (.tmp 81), (.tmp 82)], (some ((some 79), true)), [33, 34, 35, 32, 32], [80, 81, 82]⟩,
 ⟨some 84, .mv (.tmp 3), (some ((some 79), true)), [32], [3]⟩,
 ⟨some 85, .iaddr 1 (.tmp 84) (.cst (.int .i64 0)), (some ((some 79), true)), [37, 32], [84]⟩,
 ⟨some 86, .load false 1 (.tmp 85), (some ((some 79), true)), [38, 32], [85]⟩,
 ⟨some 87, .mv (.tmp 3), (some ((some 79), true)), [32], [3]⟩,
 ⟨some 88, .iaddr 1 (.tmp 87) (.cst (.int .i64 2)), (some ((some 79), true)), [40, 32], [87]⟩,
 ⟨some 89, .load false 1 (.tmp 88), (some ((some 79), true)), [41, 32], [88]⟩,
 ⟨some 90, .flist 1 2 [.nils] [(0, (.tmp 86)), (1, (.tmp 89))], (some ((some 79), true)), [39, 42, 32], [86, 89]⟩,
 ⟨some 91, .build [.nils, (.int .i64 0)] [(0, 1, (.tmp 90))], (some ((some 79), true)), [43, 32], [90]⟩,
 ⟨some 92, .call true i_X56 [(.tmp 83), (.tmp 91)], (some ((some 79), true)), [36, 44, 36, 32], [83, 91]⟩,
 ⟨some 93, .pick (.tmp 79) (.tmp 92) (.cst (.bool false)), none, [32, 45], [79, 92]⟩,
 ⟨some 94, .mv (.tmp 93), none, [46, 45], [93]⟩,
 ⟨some 95, .mv (.tmp 3), (some ((some 94), true)), [47], [3]⟩,
 ⟨some 96, .mv (.tmp 4), (some ((some 94), true)), [47], [4]⟩,
 ⟨some 97, .load true 2 (.tmp 6), (some ((some 94), true)), [47], [6]⟩,
 ⟨some 98, .call true i_X55 [(.tmp 95), (.tmp 96), (.tmp 97)], (some ((some 94), true)), [48, 49, 50, 47, 47], [95, 96, 97]⟩,
 ⟨some 99, .mv (.tmp 3), (some ((some 94), true)), [47], [3]⟩,
 ⟨some 100, .slice 1 (.tmp 99) (some (.cst (.int .i64 1))) (some (.cst (.int .i64 2))) none, (some ((some 94), true)), [52, 47], [99]⟩,
 ⟨some 101, .build [.nils, (.int .i64 0)] [(0, 1, (.tmp 100))], (some ((some 94), true)), [53, 47], [100]⟩,
 ⟨some 102, .call true i_X56 [(.tmp 98), (.tmp 101)], (some ((some 94), true)), [51, 54, 51, 47], [98, 101]⟩,
 ⟨some 103, .pick (.tmp 94) (.tmp 102) (.cst (.bool false)), none, [47, 55], [94, 102]⟩,
 ⟨some 104, .mv (.tmp 103), none, [56, 55], [103]⟩,
 ⟨some 105, .faddr 0 (.tmp 7), (some ((some 104), true)), [57], [7]⟩,
 ⟨some 106, .load false 1 (.tmp 105), (some ((some 104), true)), [58, 57], [105]⟩,
 ⟨some 107, .len .sl (.tmp 106), (some ((some 104), true)), [59, 57], [106]⟩,
 ⟨some 108, .bin .eql (.tmp 107) (.cst (.int .i64 4)), (some ((some 104), true)), [60, 57], [107]⟩,
 ⟨some 109, .pick (.tmp 104) (.tmp 108) (.cst (.bool false)), none, [57, 61], [104, 108]⟩,
 ⟨some 110, .mv (.tmp 109), none, [62, 57], [109]⟩,
 ⟨some 111, .faddr 0 (.tmp 7), (some ((some 110), true)), [63], [7]⟩,
 ⟨some 112, .load false 1 (.tmp 111), (some ((some 110), true)), [64, 63], [111]⟩,
 ⟨some 113, .iaddr 1 (.tmp 112) (.cst (.int .i64 0)), (some ((some 110), true)), [65, 63], [112]⟩,
 ⟨some 114, .load false 1 (.tmp 113), (some ((some 110), true)), [66, 63], [113]⟩,
 ⟨some 115, .load true 3 (.tmp 1), (some ((some 110), true)), [63], [1]⟩,
 ⟨some 116, .call true i_X68 [(.cst (.str ⟨#[97]⟩))], (some ((some 110), true)), [63, 63], []⟩,
 ⟨some 117, .build [(.int .i64 0), (.int .i64 0), (.str ⟨#[]⟩)] [], (some ((some 110), true)), [63], []⟩,
 ⟨some 118, .build [(.int .i64 0), (.int .i64 0), (.str ⟨#[]⟩)] [], (some ((some 110), true)), [63], []⟩,
 ⟨some 119, .flist 3 4 [(.int .i64 0), (.int .i64 0), (.str ⟨#[]⟩)] [(0, (.tmp 115)), (1, (.tmp 116)), (2, (.tmp 117)), (3, (.tmp 118))], (some ((some 110), true)), [68, 69, 70, 71, 63], [115, 116, 117, 118]⟩,
 ⟨some 120, .call true i_X59 [(.tmp 114), (.tmp 119)], (some ((some 110), true)), [67, 72, 69, 63], [114, 119]⟩,
 ⟨some 121, .pick (.tmp 110) (.tmp 120) (.cst (.bool false)), none, [63, 73], [110, 120]⟩,
 ⟨some 122, .mv (.tmp 121), none, [74, 73], [121]⟩,
 ⟨some 123, .mv (.tmp 3), (some ((some 122), true)), [75], [3]⟩,
 ⟨some 124, .mv (.tmp 4), (some ((some 122), true)), [75], [4]⟩,
 ⟨some 125, .build [(.int .i64 0), (.int .i64 0)] [(0, 1, (.cst (.int .i64 0))), (1, 1, (.cst (.int .i64 2)))], (some ((some 122), true)), [75], []⟩,
 ⟨some 126, .call true i_X36 [(.tmp 123), (.tmp 124), (.tmp 125)], (some ((some 122), true)), [76, 77, 78, 75, 75], [123, 124, 125]⟩,
 ⟨some 127, .field 1 1 false (.tmp 126), (some ((some 122), true)), [79, 75], [126]⟩,
 ⟨some 128, .bin .eql (.tmp 127) (.cst (.int .i64 1)), (some ((some 122), true)), [80, 75], [127]⟩,
 ⟨some 129, .pick (.tmp 122) (.tmp 128) (.cst (.bool false)), none, [75, 81], [122, 128]⟩,
 ⟨some 130, .mv (.tmp 129), none, [82, 79], [129]⟩,
 ⟨some 131, .mv (.tmp 3), (some ((some 130), true)), [83], [3]⟩,
 ⟨some 132, .mv (.tmp 4), (some ((some 130), true)), [83], [4]⟩,
 ⟨some 133, .build [.nils, .nils, (.int .i64 0), (.int .i64 0)] [(0, 1, (.tmp 131)), (1, 1, (.tmp 132))], (some ((some 130), true)), [84, 85, 83], [131, 132]⟩,
 ⟨some 134, .call true i_X49 [(.tmp 133), (.cst (.int .i64 33))], (some ((some 130), true)), [86, 83, 83], [133]⟩,
 ⟨some 135, .field 1 1 false (.tmp 134), (some ((some 130), true)), [87, 83], [134]⟩,
 ⟨some 136, .bin .eql (.tmp 135) (.cst (.int .i64 1)), (some ((some 130), true)), [88, 83], [135]⟩,
 ⟨some 137, .pick (.tmp 130) (.tmp 136) (.cst (.bool false)), none, [83, 89], [130, 136]⟩,
 ⟨some 0, .mv (.tmp 137), none, [90, 87, 0, 1, 2, 3, 4, 5, 6, 7, 8, 9, 10, 11, 12, 13, 14, 15, 16, 17, 18, 19, 20, 21, 22, 23, 24, 25, 26, 27, 28, 29, 30, 31, 32, 33, 34, 35, 36, 37, 38, 39, 40, 41, 42, 43, 44, 45, 46, 47, 48, 49, 50, 51, 52, 53, 54, 55, 56, 57, 58, 59, 60, 61, 62, 63, 64, 65, 66, 67, 68, 69, 70, 71, 72, 73, 74, 75, 76, 77, 78, 79, 80, 81, 82, 83, 84, 85, 86, 87, 88, 89, 90], [137]⟩])
 .ret))))))))
def X19 : AFunc := ⟨138, [.tmp 0], X19.main, false⟩
def X52.c0 : ACode := (.seq (.region false [
 ⟨some 46, .mv (.tmp 3), none, [], []⟩,
 ⟨some 47, .bin .leq (.tmp 46) (.cst (.int .i64 300)), none, [], []⟩,
 ⟨some 2, .mv (.tmp 47), none, [], []⟩])
 .ret)
def X52.b1 : ACode := (.seq (.seq (.seq (.region false [
 ⟨some 26, .mv (.tmp 5), none, [], []⟩,
 ⟨some 27, .faddr 1 (.tmp 1), none, [], []⟩,
 ⟨some 28, .load false 1 (.tmp 27), none, [], []⟩,
 ⟨some 29, .len .sl (.tmp 28), none, [], []⟩,
 ⟨some 30, .bin .lss (.tmp 26) (.tmp 29), none, [], []⟩,
 ⟨some 31, .mv (.tmp 30), none, [], []⟩,
 ⟨some 32, .mv (.tmp 3), (some ((some 31), true)), [], []⟩,
 ⟨some 33, .bin .leq (.tmp 32) (.cst (.int .i64 300)), (some ((some 31), true)), [], []⟩,
 ⟨some 34, .pick (.tmp 31) (.tmp 33) (.cst (.bool false)), none, [], []⟩])
 (.ghost (.kill [26, 27, 28, 29, 30, 31, 32, 33])))
 (.cond (.tmp 34) .skip
 (.exit 2)))
 (.seq (.block 3 (.seq (.region false [
 ⟨some 37, .mv (.tmp 3), none, [], []⟩,
 ⟨some 38, .faddr 1 (.tmp 1), none, [], []⟩,
 ⟨some 39, .load false 1 (.tmp 38), none, [], []⟩,
 ⟨some 40, .mv (.tmp 5), none, [], []⟩,
 ⟨some 41, .iaddr 1 (.tmp 39) (.tmp 40), none, [], []⟩,
 ⟨some 42, .load false 1 (.tmp 41), none, [], []⟩,
 ⟨some 43, .len .sl (.tmp 42), none, [], []⟩,
 ⟨some 44, .bin .add (.cst (.int .i64 1)) (.tmp 43), none, [], []⟩,
 ⟨some 45, .bin .add (.tmp 37) (.tmp 44), none, [], []⟩,
 ⟨some 3, .mv (.tmp 45), none, [], []⟩])
 (.ghost (.kill [34, 37, 38, 39, 40, 41, 42, 43, 44, 45]))))
 (.seq (.region false [
 ⟨some 35, .mv (.tmp 5), none, [], []⟩,
 ⟨some 36, .bin .add (.tmp 35) (.cst (.int .i64 1)), none, [], []⟩,
 ⟨some 5, .mv (.tmp 36), none, [], []⟩])
 (.ghost (.kill [35, 36])))))
def X52.c1 : ACode := (.seq (.seq (.region false [
 ⟨some 5, .mv (.cst (.int .i64 0)), none, [], []⟩])
 (.seq (.block 2 (.loop X52.b1))
 (.ghost (.kill [1, 5, 34]))))
 X52.c0)
def X52.b0 : ACode := (.seq (.seq (.seq (.region false [
 ⟨some 6, .mv (.tmp 4), none, [], []⟩,
 ⟨some 7, .faddr 0 (.tmp 1), none, [], []⟩,
 ⟨some 8, .load false 1 (.tmp 7), none, [], []⟩,
 ⟨some 9, .len .sl (.tmp 8), none, [], []⟩,
 ⟨some 10, .bin .lss (.tmp 6) (.tmp 9), none, [], []⟩,
 ⟨some 11, .mv (.tmp 10), none, [], []⟩,
 ⟨some 12, .mv (.tmp 3), (some ((some 11), true)), [], []⟩,
 ⟨some 13, .bin .leq (.tmp 12) (.cst (.int .i64 300)), (some ((some 11), true)), [], []⟩,
 ⟨some 14, .pick (.tmp 11) (.tmp 13) (.cst (.bool false)), none, [], []⟩])
 (.ghost (.kill [6, 7, 8, 9, 10, 11, 12, 13])))
 (.cond (.tmp 14) .skip
 (.exit 0)))
 (.seq (.block 1 (.seq (.region false [
 ⟨some 17, .mv (.tmp 3), none, [], []⟩,
 ⟨some 18, .faddr 0 (.tmp 1), none, [], []⟩,
 ⟨some 19, .load false 1 (.tmp 18), none, [], []⟩,
 ⟨some 20, .mv (.tmp 4), none, [], []⟩,
 ⟨some 21, .iaddr 1 (.tmp 19) (.tmp 20), none, [], []⟩,
 ⟨some 22, .load false 1 (.tmp 21), none, [], []⟩,
 ⟨some 23, .len .sl (.tmp 22), none, [], []⟩,
 ⟨some 24, .bin .add (.cst (.int .i64 1)) (.tmp 23), none, [], []⟩,
 ⟨some 25, .bin .add (.tmp 17) (.tmp 24), none, [], []⟩,
 ⟨some 3, .mv (.tmp 25), none, [], []⟩])
 (.ghost (.kill [14, 17, 18, 19, 20, 21, 22, 23, 24, 25]))))
 (.seq (.region false [
 ⟨some 15, .mv (.tmp 4), none, [], []⟩,
 ⟨some 16, .bin .add (.tmp 15) (.cst (.int .i64 1)), none, [], []⟩,
 ⟨some 4, .mv (.tmp 16), none, [], []⟩])
 (.ghost (.kill [15, 16])))))
def X52.main : ACode := (.seq (.seq (.region false [
 ⟨some 1, .box 4 (.tmp 0), none, [], []⟩,
 ⟨some 2, .mv (.cst (.bool false)), none, [], []⟩])
 (.ghost (.kill [0, 2])))
 (.seq (.region false [
 ⟨some 3, .mv (.cst (.int .i64 0)), none, [], []⟩])
 (.seq (.seq (.region false [
 ⟨some 4, .mv (.cst (.int .i64 0)), none, [], []⟩])
 (.seq (.block 0 (.loop X52.b0))
 (.ghost (.kill [4, 14]))))
 X52.c1)))
def X52.k1 : List Item := [.inBlock 2, .code (.ghost (.kill [1, 5, 34])), .code X52.c0]
def X52.k0 : List Item := [.inBlock 0, .code (.ghost (.kill [4, 14])), .code X52.c1]
def X52 : AFunc := ⟨48, [.tmp 2], X52.main, false⟩
def X25.c0 : ACode := (.seq (.region false [
 ⟨some 17, .mv (.tmp 5), none, [], []⟩,
 ⟨some 4, .mv (.tmp 17), none, [], []⟩])
 .ret)
def X25.c1 : ACode := (.ghost (.kill [0, 1, 6, 10]))
def X25.b0 : ACode := (.seq (.seq (.seq (.region false [
 ⟨some 8, .mv (.tmp 6), none, [], []⟩,
 ⟨some 9, .mv (.tmp 1), none, [], []⟩,
 ⟨some 10, .bin .lss (.tmp 8) (.tmp 9), none, [], []⟩])
 (.ghost (.kill [8, 9])))
 (.cond (.tmp 10) .skip
 (.exit 0)))
 (.seq (.trunc (.block 1 (.seq (.region false [
 ⟨some 13, .mv (.tmp 5), none, [], []⟩,
 ⟨some 14, .mv (.tmp 0), none, [], []⟩,
 ⟨some 15, .bslice 1 1 [.nils] [(0, (.tmp 14))], none, [], []⟩,
 ⟨some 16, .append 1 24 (.tmp 13) (.tmp 15), none, [], []⟩,
 ⟨some 5, .mv (.tmp 16), none, [], []⟩])
 (.ghost (.kill [10, 13, 14, 15, 16])))))
 (.seq (.region false [
 ⟨some 11, .mv (.tmp 6), none, [], []⟩,
 ⟨some 12, .bin .add (.tmp 11) (.cst (.int .i64 1)), none, [], []⟩,
 ⟨some 6, .mv (.tmp 12), none, [], []⟩])
 (.ghost (.kill [11, 12])))))
def X25.main : ACode := (.seq (.seq (.region false [
 ⟨some 4, .mv (.cst .nils), none, [], []⟩])
 (.ghost (.kill [4])))
 (.seq (.seq (.region false [
 ⟨some 7, .bslice 1 0 [.nils] [], none, [], []⟩,
 ⟨some 5, .mv (.tmp 7), none, [], []⟩])
 (.ghost (.kill [7])))
 (.seq (.seq (.region false [
 ⟨some 6, .mv (.cst (.int .i64 0)), none, [], []⟩])
 (.seq (.block 0 (.loop X25.b0))
 X25.c1))
 X25.c0)))
def X25.k0 : List Item := [.inBlock 0, .code X25.c1, .code X25.c0]
def X25 : AFunc := ⟨18, [.tmp 4], X25.main, false⟩
def X47.main : ACode := (.seq (.region false [
 ⟨some 2, .alloc [(.int .i64 0), (.int .i64 0), (.str ⟨#[]⟩)], none, [], []⟩])
 (.seq (.region false [
 ⟨some 3, .mv (.tmp 0), none, [], []⟩,
 ⟨some 4, .bin .mul (.tmp 3) (.cst (.int .i64 1000000)), none, [], []⟩,
 ⟨some 5, .call true i_X66 [(.tmp 4)], none, [], []⟩,
 ⟨none, .store 3 (.tmp 2) (.tmp 5), none, [], []⟩])
 .ret))
def X47 : AFunc := ⟨6, [.cell 2 true 3], X47.main, false⟩
def X62.main : ACode := (.seq (.seq (.region false [
 ⟨some 1, .box 6 (.tmp 0), none, [], []⟩,
 ⟨some 2, .alloc [.nils, .nils, (.int .i64 0), (.int .i64 0)], none, [], []⟩])
 (.ghost (.kill [0])))
 (.seq (.seq (.region true [
 ⟨some 5, .faddr 2 (.tmp 1), none, [], [1]⟩,
 ⟨some 6, .load false 1 (.tmp 5), none, [0], [5]⟩,
 ⟨some 7, .bin .rem (.tmp 6) (.cst (.int .u8 3)), none, [1], [6]⟩,
 ⟨some 8, .conv .i64 (.tmp 7), none, [2], [7]⟩,
 ⟨some 9, .bin .add (.cst (.int .i64 1)) (.tmp 8), none, [3], [8]⟩,
 ⟨some 10, .faddr 3 (.tmp 1), none, [], [1]⟩,
 ⟨some 11, .load false 1 (.tmp 10), none, [5], [10]⟩,
 ⟨some 12, .bin .rem (.tmp 11) (.cst (.int .u8 3)), none, [6], [11]⟩,
 ⟨some 13, .conv .i64 (.tmp 12), none, [7], [12]⟩,
 ⟨some 14, .bin .add (.cst (.int .i64 1)) (.tmp 13), none, [8], [13]⟩,
 ⟨some 3, .mv (.tmp 9), none, [4, 0, 1, 2, 3, 4], [9]⟩,
 ⟨some 4, .mv (.tmp 14), none, [9, 10, 0, 1, 2, 3, 4, 5, 6, 7, 8, 9, 10], [14]⟩])
 (.ghost (.kill [5, 6, 7, 8, 9, 10, 11, 12, 13, 14])))
 (.seq (.region true [
 ⟨some 15, .faddr 0 (.tmp 1), none, [], [1]⟩,
 ⟨some 16, .load false 1 (.tmp 15), none, [0], [15]⟩,
 ⟨some 17, .mv (.tmp 3), none, [], [3]⟩,
 ⟨some 18, .call true i_X64 [(.tmp 16), (.tmp 17)], none, [1, 2], [16, 17]⟩,
 ⟨some 19, .faddr 1 (.tmp 1), none, [], [1]⟩,
 ⟨some 20, .load false 1 (.tmp 19), none, [4], [19]⟩,
 ⟨some 21, .mv (.tmp 4), none, [], [4]⟩,
 ⟨some 22, .call true i_X64 [(.tmp 20), (.tmp 21)], none, [5, 6, 3], [20, 21]⟩,
 ⟨some 23, .faddr 4 (.tmp 1), none, [], [1]⟩,
 ⟨some 24, .iaddrA 2 1 (.tmp 23) (.cst (.int .i64 0)), none, [8], [23]⟩,
 ⟨some 25, .load false 1 (.tmp 24), none, [9], [24]⟩,
 ⟨some 26, .conv .i64 (.tmp 25), none, [10], [25]⟩,
 ⟨some 27, .mv (.tmp 3), none, [], [3]⟩,
 ⟨some 28, .bin .rem (.tmp 26) (.tmp 27), none, [11, 12], [26, 27]⟩,
 ⟨some 29, .faddr 4 (.tmp 1), none, [], [1]⟩,
 ⟨some 30, .iaddrA 2 1 (.tmp 29) (.cst (.int .i64 1)), none, [14], [29]⟩,
 ⟨some 31, .load false 1 (.tmp 30), none, [15], [30]⟩,
 ⟨some 32, .conv .i64 (.tmp 31), none, [16], [31]⟩,
 ⟨some 33, .mv (.tmp 4), none, [], [4]⟩,
 ⟨some 34, .bin .rem (.tmp 32) (.tmp 33), none, [17, 18], [32, 33]⟩,
 ⟨some 35, .build [(.int .i64 0), (.int .i64 0)] [(0, 1, (.tmp 28)), (1, 1, (.tmp 34))], none, [13, 19], [28, 34]⟩,
 ⟨some 36, .build [.nils, .nils, (.int .i64 0), (.int .i64 0)] [(0, 1, (.tmp 18)), (1, 1, (.tmp 22)), (2, 2, (.tmp 35))], none, [3, 7, 20], [18, 22, 35]⟩,
 ⟨none, .store 4 (.tmp 2) (.tmp 36), none, [21, 7, 0, 1, 2, 3, 4, 5, 6, 7, 8, 9, 10, 11, 12, 13, 14, 15, 16, 17, 18, 19, 20, 21], [2, 36]⟩])
 .ret)))
def X62 : AFunc := ⟨37, [.cell 2 true 4], X62.main, false⟩
def X56.main : ACode := (.seq (.seq (.region false [
 ⟨some 2, .box 2 (.tmp 0), none, [], []⟩,
 ⟨some 3, .box 2 (.tmp 1), none, [], []⟩,
 ⟨some 4, .mv (.cst (.bool false)), none, [], []⟩])
 (.ghost (.kill [0, 1, 4])))
 (.seq (.region false [
 ⟨some 5, .faddr 1 (.tmp 2), none, [], []⟩,
 ⟨some 6, .load false 1 (.tmp 5), none, [], []⟩,
 ⟨some 7, .faddr 1 (.tmp 3), none, [], []⟩,
 ⟨some 8, .load false 1 (.tmp 7), none, [], []⟩,
 ⟨some 9, .bin .eql (.tmp 6) (.tmp 8), none, [], []⟩,
 ⟨some 10, .mv (.tmp 9), none, [], []⟩,
 ⟨some 11, .faddr 0 (.tmp 2), (some ((some 10), true)), [], []⟩,
 ⟨some 12, .load false 1 (.tmp 11), (some ((some 10), true)), [], []⟩,
 ⟨some 13, .faddr 0 (.tmp 3), (some ((some 10), true)), [], []⟩,
 ⟨some 14, .load false 1 (.tmp 13), (some ((some 10), true)), [], []⟩,
 ⟨some 15, .call true i_X23 [(.tmp 12), (.tmp 14)], (some ((some 10), true)), [], []⟩,
 ⟨some 16, .pick (.tmp 10) (.tmp 15) (.cst (.bool false)), none, [], []⟩,
 ⟨some 4, .mv (.tmp 16), none, [], []⟩])
 .ret))
def X56 : AFunc := ⟨17, [.tmp 4], X56.main, false⟩
def X36.main : ACode := (.seq (.seq (.region false [
 ⟨some 5, .box 2 (.tmp 2), none, [], []⟩,
 ⟨some 6, .alloc [.nils, (.int .i64 0)], none, [], []⟩])
 (.ghost (.kill [2])))
 (.seq (.seq (.region false [
 ⟨some 10, .mv (.tmp 0), none, [], []⟩,
 ⟨some 11, .mv (.tmp 1), none, [], []⟩,
 ⟨some 12, .load true 2 (.tmp 5), none, [], []⟩,
 ⟨some 13, .call true i_X31 [(.tmp 10), (.tmp 11), (.tmp 12)], none, [], []⟩,
 ⟨some 9, .mv (.tmp 13), none, [], []⟩,
 ⟨some 14, .extr (.tmp 9) 0, none, [], []⟩,
 ⟨some 15, .extr (.tmp 9) 1, none, [], []⟩,
 ⟨some 7, .mv (.tmp 14), none, [], []⟩,
 ⟨some 8, .mv (.tmp 15), none, [], []⟩])
 (.ghost (.kill [0, 1, 5, 9, 10, 11, 12, 13, 14, 15])))
 (.seq (.region false [
 ⟨some 16, .mv (.tmp 7), none, [], []⟩,
 ⟨some 17, .mv (.tmp 8), none, [], []⟩,
 ⟨some 18, .build [.nils, (.int .i64 0)] [(0, 1, (.tmp 16)), (1, 1, (.tmp 17))], none, [], []⟩,
 ⟨none, .store 2 (.tmp 6) (.tmp 18), none, [], []⟩])
 .ret)))
def X36 : AFunc := ⟨19, [.cell 6 true 2], X36.main, false⟩
def X21.c0 : ACode := (.seq (.region false [
 ⟨some 58, .mv (.tmp 7), none, [], []⟩,
 ⟨some 59, .build [.nils, (.int .i64 0)] [(0, 1, (.tmp 58))], none, [], []⟩,
 ⟨none, .store 2 (.tmp 6) (.tmp 59), none, [], []⟩])
 .ret)
def X21.c1 : ACode := (.ghost (.kill [0, 1, 5, 8, 20]))
def X21.c2 : ACode := (.seq (.region false [
 ⟨some 21, .mv (.tmp 8), none, [], []⟩,
 ⟨some 22, .bin .add (.tmp 21) (.cst (.int .i64 1)), none, [], []⟩,
 ⟨some 8, .mv (.tmp 22), none, [], []⟩])
 (.ghost (.kill [21, 22])))
def X21.b1 : ACode := (.seq (.seq (.seq (.region false [
 ⟨some 23, .mv (.tmp 9), none, [], []⟩,
 ⟨some 24, .mv (.tmp 1), none, [], []⟩,
 ⟨some 25, .len .sl (.tmp 24), none, [], []⟩,
 ⟨some 26, .bin .lss (.tmp 23) (.tmp 25), none, [], []⟩])
 (.ghost (.kill [23, 24, 25])))
 (.cond (.tmp 26) .skip
 (.exit 2)))
 (.seq (.trunc (.seq (.block 3 (.seq (.seq (.seq (.region true [
 ⟨some 29, .mv (.tmp 0), none, [], [0]⟩,
 ⟨some 30, .mv (.tmp 8), none, [], [8]⟩,
 ⟨some 31, .iaddr 1 (.tmp 29) (.tmp 30), none, [0, 1], [29, 30]⟩,
 ⟨some 32, .load false 1 (.tmp 31), none, [2], [31]⟩,
 ⟨some 33, .mv (.tmp 1), none, [], [1]⟩,
 ⟨some 34, .mv (.tmp 9), none, [], [9]⟩,
 ⟨some 35, .iaddr 1 (.tmp 33) (.tmp 34), none, [4, 5], [33, 34]⟩,
 ⟨some 36, .load false 1 (.tmp 35), none, [6], [35]⟩,
 ⟨some 37, .load true 2 (.tmp 5), none, [], [5]⟩,
 ⟨some 38, .call true i_X22 [(.tmp 32), (.tmp 36), (.tmp 37)], none, [3, 7, 8], [32, 36, 37]⟩,
 ⟨some 39, .un .not (.tmp 38), none, [9], [38]⟩])
 (.ghost (.kill [26, 29, 30, 31, 32, 33, 34, 35, 36, 37, 38])))
 (.cond (.tmp 39) (.exit 3)
 .skip))
 (.seq (.seq (.seq (.region false [
 ⟨some 40, .mv (.tmp 7), none, [], []⟩,
 ⟨some 41, .len .sl (.tmp 40), none, [], []⟩,
 ⟨some 42, .bin .eql (.tmp 41) (.cst (.int .i64 4096)), none, [], []⟩])
 (.ghost (.kill [39, 40, 41])))
 (.cond (.tmp 42) (.seq (.region false [
   ⟨some 43, .build [.nils, (.int .i64 0)] [(1, 1, (.cst (.int .i64 2)))], none, [], []⟩,
   ⟨none, .store 2 (.tmp 6) (.tmp 43), none, [], []⟩])
  .ret)
 .skip))
 (.seq (.regionD ⟨[44, 45, 50], [], [([45], [51, 52, 53])]⟩ [
 ⟨some 44, .mv (.tmp 7), none, [], [7]⟩,
 ⟨some 45, .bslice 3 0 [(.int .i64 0), (.int .i64 0), (.str ⟨#[]⟩)] [], none, [], []⟩,
 ⟨some 46, .mv (.tmp 0), none, [], [0]⟩,
 ⟨some 47, .mv (.tmp 8), none, [], [8]⟩,
 ⟨some 48, .iaddr 1 (.tmp 46) (.tmp 47), none, [2, 3], [46, 47]⟩,
 ⟨some 49, .load false 1 (.tmp 48), none, [4], [48]⟩,
 ⟨some 50, .append 3 32 (.tmp 45) (.tmp 49), none, [1, 5], [45, 49]⟩,
 ⟨some 51, .mv (.tmp 1), none, [], [1]⟩,
 ⟨some 52, .mv (.tmp 9), none, [], [9]⟩,
 ⟨some 53, .iaddr 1 (.tmp 51) (.tmp 52), none, [7, 8], [51, 52]⟩,
 ⟨some 54, .load false 1 (.tmp 53), none, [9], [53]⟩,
 ⟨some 55, .appendF 3 32 (.tmp 50) (.tmp 54), none, [6, 10, 6], [50, 54]⟩,
 ⟨some 56, .bslice 1 1 [.nils] [(0, (.tmp 55))], none, [11], [55]⟩,
 ⟨some 57, .append 1 24 (.tmp 44) (.tmp 56), none, [0, 12, 11], [44, 56]⟩,
 ⟨some 7, .mv (.tmp 57), none, [13, 13, 0, 1, 2, 3, 4, 5, 6, 7, 8, 9, 10, 11, 12, 13], [57]⟩])
 (.ghost (.kill [42, 44, 45, 46, 47, 48, 49, 50, 51, 52, 53, 54, 55, 56, 57]))))))
 (.ghost (.kill [39]))))
 (.seq (.region false [
 ⟨some 27, .mv (.tmp 9), none, [], []⟩,
 ⟨some 28, .bin .add (.tmp 27) (.cst (.int .i64 1)), none, [], []⟩,
 ⟨some 9, .mv (.tmp 28), none, [], []⟩])
 (.ghost (.kill [27, 28])))))
def X21.b0 : ACode := (.seq (.seq (.seq (.region false [
 ⟨some 17, .mv (.tmp 8), none, [], []⟩,
 ⟨some 18, .mv (.tmp 0), none, [], []⟩,
 ⟨some 19, .len .sl (.tmp 18), none, [], []⟩,
 ⟨some 20, .bin .lss (.tmp 17) (.tmp 19), none, [], []⟩])
 (.ghost (.kill [17, 18, 19])))
 (.cond (.tmp 20) .skip
 (.exit 0)))
 (.seq (.trunc (.block 1 (.seq (.seq (.region false [
 ⟨some 9, .mv (.cst (.int .i64 0)), none, [], []⟩])
 (.ghost (.kill [20])))
 (.seq (.block 2 (.loop X21.b1))
 (.ghost (.kill [9, 26]))))))
 X21.c2))
def X21.main : ACode := (.seq (.seq (.region false [
 ⟨some 5, .box 2 (.tmp 2), none, [], []⟩,
 ⟨some 6, .alloc [.nils, (.int .i64 0)], none, [], []⟩])
 (.ghost (.kill [2])))
 (.seq (.seq (.seq (.region false [
 ⟨some 10, .mv (.tmp 0), none, [], []⟩,
 ⟨some 11, .mv (.tmp 1), none, [], []⟩,
 ⟨some 12, .load true 2 (.tmp 5), none, [], []⟩,
 ⟨some 13, .call true i_X69 [(.tmp 10), (.tmp 11), (.tmp 12)], none, [], []⟩,
 ⟨some 14, .un .not (.tmp 13), none, [], []⟩])
 (.ghost (.kill [10, 11, 12, 13])))
 (.cond (.tmp 14) (.seq (.region false [
   ⟨some 15, .build [.nils, (.int .i64 0)] [(1, 1, (.cst (.int .i64 1)))], none, [], []⟩,
   ⟨none, .store 2 (.tmp 6) (.tmp 15), none, [], []⟩])
  .ret)
 .skip))
 (.seq (.seq (.region false [
 ⟨some 16, .bslice 1 0 [.nils] [], none, [], []⟩,
 ⟨some 7, .mv (.tmp 16), none, [], []⟩])
 (.ghost (.kill [14, 16])))
 (.seq (.seq (.region false [
 ⟨some 8, .mv (.cst (.int .i64 0)), none, [], []⟩])
 (.seq (.block 0 (.loop X21.b0))
 X21.c1))
 X21.c0))))
def X21.k1 (m0 : Nat) : List Item := [.inBlock 2, .code (.ghost (.kill [9, 26])), .inBlock 1, .inTrunc m0, .code X21.c2, .inLoop X21.b0, .inBlock 0, .code X21.c1, .code X21.c0]
def X21.k0 : List Item := [.inBlock 0, .code X21.c1, .code X21.c0]
def X21 : AFunc := ⟨60, [.cell 6 true 2], X21.main, false⟩
def X58.main : ACode := (.seq (.seq (.region false [
 ⟨some 5, .box 2 (.tmp 2), none, [], []⟩,
 ⟨some 6, .alloc [.nils, (.int .i64 0)], none, [], []⟩])
 (.ghost (.kill [2])))
 (.seq (.seq (.region false [
 ⟨some 10, .mv (.tmp 0), none, [], []⟩,
 ⟨some 11, .mv (.tmp 1), none, [], []⟩,
 ⟨some 12, .load true 2 (.tmp 5), none, [], []⟩,
 ⟨some 13, .call true i_X45 [(.tmp 10), (.tmp 11), (.tmp 12)], none, [], []⟩,
 ⟨some 9, .mv (.tmp 13), none, [], []⟩,
 ⟨some 14, .extr (.tmp 9) 0, none, [], []⟩,
 ⟨some 15, .extr (.tmp 9) 1, none, [], []⟩,
 ⟨some 7, .mv (.tmp 14), none, [], []⟩,
 ⟨some 8, .mv (.tmp 15), none, [], []⟩])
 (.ghost (.kill [0, 1, 5, 9, 10, 11, 12, 13, 14, 15])))
 (.seq (.region false [
 ⟨some 16, .mv (.tmp 7), none, [], []⟩,
 ⟨some 17, .mv (.tmp 8), none, [], []⟩,
 ⟨some 18, .build [.nils, (.int .i64 0)] [(0, 1, (.tmp 16)), (1, 1, (.tmp 17))], none, [], []⟩,
 ⟨none, .store 2 (.tmp 6) (.tmp 18), none, [], []⟩])
 .ret)))
def X58 : AFunc := ⟨19, [.cell 6 true 2], X58.main, false⟩
def X39.main : ACode := (.seq (.seq (.region false [
 ⟨some 5, .box 2 (.tmp 2), none, [], []⟩,
 ⟨some 6, .alloc [.nils, (.int .i64 0)], none, [], []⟩])
 (.ghost (.kill [2])))
 (.seq (.seq (.region false [
 ⟨some 10, .mv (.tmp 0), none, [], []⟩,
 ⟨some 11, .mv (.tmp 1), none, [], []⟩,
 ⟨some 12, .load true 2 (.tmp 5), none, [], []⟩,
 ⟨some 13, .call true i_X35 [(.tmp 10), (.tmp 11), (.tmp 12)], none, [], []⟩,
 ⟨some 9, .mv (.tmp 13), none, [], []⟩,
 ⟨some 14, .extr (.tmp 9) 0, none, [], []⟩,
 ⟨some 15, .extr (.tmp 9) 1, none, [], []⟩,
 ⟨some 7, .mv (.tmp 14), none, [], []⟩,
 ⟨some 8, .mv (.tmp 15), none, [], []⟩])
 (.ghost (.kill [0, 1, 5, 9, 10, 11, 12, 13, 14, 15])))
 (.seq (.region false [
 ⟨some 16, .mv (.tmp 7), none, [], []⟩,
 ⟨some 17, .mv (.tmp 8), none, [], []⟩,
 ⟨some 18, .build [.nils, (.int .i64 0)] [(0, 1, (.tmp 16)), (1, 1, (.tmp 17))], none, [], []⟩,
 ⟨none, .store 2 (.tmp 6) (.tmp 18), none, [], []⟩])
 .ret)))
def X39 : AFunc := ⟨19, [.cell 6 true 2], X39.main, false⟩
def X30.main : ACode := (.seq (.seq (.region false [
 ⟨some 5, .box 2 (.tmp 2), none, [], []⟩,
 ⟨some 6, .alloc [.nils, (.int .i64 0)], none, [], []⟩])
 (.ghost (.kill [2])))
 (.seq (.seq (.seq (.region false [
 ⟨some 7, .mv (.tmp 0), none, [], []⟩,
 ⟨some 8, .mv (.tmp 1), none, [], []⟩,
 ⟨some 9, .load true 2 (.tmp 5), none, [], []⟩,
 ⟨some 10, .call true i_X69 [(.tmp 7), (.tmp 8), (.tmp 9)], none, [], []⟩,
 ⟨some 11, .un .not (.tmp 10), none, [], []⟩,
 ⟨some 12, .mv (.tmp 11), none, [], []⟩,
 ⟨some 13, .mv (.tmp 0), (some ((some 12), false)), [], []⟩,
 ⟨some 14, .iaddrA 2 1 (.tmp 5) (.cst (.int .i64 0)), (some ((some 12), false)), [], []⟩,
 ⟨some 15, .load false 1 (.tmp 14), (some ((some 12), false)), [], []⟩,
 ⟨some 16, .call true i_X37 [(.tmp 13), (.tmp 15)], (some ((some 12), false)), [], []⟩,
 ⟨some 17, .un .not (.tmp 16), (some ((some 12), false)), [], []⟩,
 ⟨some 18, .pick (.tmp 12) (.cst (.bool true)) (.tmp 17), none, [], []⟩,
 ⟨some 19, .mv (.tmp 18), none, [], []⟩,
 ⟨some 20, .mv (.tmp 1), (some ((some 19), false)), [], []⟩,
 ⟨some 21, .iaddrA 2 1 (.tmp 5) (.cst (.int .i64 1)), (some ((some 19), false)), [], []⟩,
 ⟨some 22, .load false 1 (.tmp 21), (some ((some 19), false)), [], []⟩,
 ⟨some 23, .call true i_X37 [(.tmp 20), (.tmp 22)], (some ((some 19), false)), [], []⟩,
 ⟨some 24, .un .not (.tmp 23), (some ((some 19), false)), [], []⟩,
 ⟨some 25, .pick (.tmp 19) (.cst (.bool true)) (.tmp 24), none, [], []⟩])
 (.ghost (.kill [7, 8, 9, 10, 11, 12, 13, 14, 15, 16, 17, 18, 19, 20, 21, 22, 23, 24])))
 (.cond (.tmp 25) (.seq (.region false [
   ⟨some 26, .build [.nils, (.int .i64 0)] [(1, 1, (.cst (.int .i64 1)))], none, [], []⟩,
   ⟨none, .store 2 (.tmp 6) (.tmp 26), none, [], []⟩])
  .ret)
 .skip))
 (.seq (.region false [
 ⟨some 27, .mv (.tmp 0), none, [], []⟩,
 ⟨some 28, .mv (.tmp 1), none, [], []⟩,
 ⟨some 29, .load true 2 (.tmp 5), none, [], []⟩,
 ⟨some 30, .call true i_X21 [(.tmp 27), (.tmp 28), (.tmp 29)], none, [], []⟩,
 ⟨none, .store 2 (.tmp 6) (.tmp 30), none, [], []⟩])
 .ret)))
def X30 : AFunc := ⟨31, [.cell 6 true 2], X30.main, false⟩
def X55.main : ACode := (.seq (.seq (.region false [
 ⟨some 5, .box 2 (.tmp 2), none, [], []⟩,
 ⟨some 6, .alloc [.nils, (.int .i64 0)], none, [], []⟩])
 (.ghost (.kill [2])))
 (.seq (.seq (.region false [
 ⟨some 10, .mv (.tmp 0), none, [], []⟩,
 ⟨some 11, .mv (.tmp 1), none, [], []⟩,
 ⟨some 12, .load true 2 (.tmp 5), none, [], []⟩,
 ⟨some 13, .call true i_X53 [(.tmp 10), (.tmp 11), (.tmp 12)], none, [], []⟩,
 ⟨some 9, .mv (.tmp 13), none, [], []⟩,
 ⟨some 14, .extr (.tmp 9) 0, none, [], []⟩,
 ⟨some 15, .extr (.tmp 9) 1, none, [], []⟩,
 ⟨some 7, .mv (.tmp 14), none, [], []⟩,
 ⟨some 8, .mv (.tmp 15), none, [], []⟩])
 (.ghost (.kill [0, 1, 5, 9, 10, 11, 12, 13, 14, 15])))
 (.seq (.region false [
 ⟨some 16, .mv (.tmp 7), none, [], []⟩,
 ⟨some 17, .mv (.tmp 8), none, [], []⟩,
 ⟨some 18, .build [.nils, (.int .i64 0)] [(0, 1, (.tmp 16)), (1, 1, (.tmp 17))], none, [], []⟩,
 ⟨none, .store 2 (.tmp 6) (.tmp 18), none, [], []⟩])
 .ret)))
def X55 : AFunc := ⟨19, [.cell 6 true 2], X55.main, false⟩
def X38.main : ACode := (.seq (.seq (.region false [
 ⟨some 5, .box 2 (.tmp 2), none, [], []⟩,
 ⟨some 6, .alloc [.nils, (.int .i64 0)], none, [], []⟩])
 (.ghost (.kill [2])))
 (.seq (.region false [
 ⟨some 7, .mv (.tmp 0), none, [], []⟩,
 ⟨some 8, .mv (.tmp 1), none, [], []⟩,
 ⟨some 9, .load true 2 (.tmp 5), none, [], []⟩,
 ⟨some 10, .call true i_X63 [(.tmp 7), (.tmp 8), (.tmp 9), (.cst (.bool true))], none, [], []⟩,
 ⟨none, .store 2 (.tmp 6) (.tmp 10), none, [], []⟩])
 .ret))
def X38 : AFunc := ⟨11, [.cell 6 true 2], X38.main, false⟩
def X61.main : ACode := (.seq (.seq (.region false [
 ⟨some 5, .box 2 (.tmp 2), none, [], []⟩,
 ⟨some 6, .alloc [.nils, (.int .i64 0)], none, [], []⟩])
 (.ghost (.kill [2])))
 (.seq (.seq (.region false [
 ⟨some 10, .mv (.tmp 0), none, [], []⟩,
 ⟨some 11, .mv (.tmp 1), none, [], []⟩,
 ⟨some 12, .load true 2 (.tmp 5), none, [], []⟩,
 ⟨some 13, .call true i_X48 [(.tmp 10), (.tmp 11), (.tmp 12)], none, [], []⟩,
 ⟨some 9, .mv (.tmp 13), none, [], []⟩,
 ⟨some 14, .extr (.tmp 9) 0, none, [], []⟩,
 ⟨some 15, .extr (.tmp 9) 1, none, [], []⟩,
 ⟨some 7, .mv (.tmp 14), none, [], []⟩,
 ⟨some 8, .mv (.tmp 15), none, [], []⟩])
 (.ghost (.kill [0, 1, 5, 9, 10, 11, 12, 13, 14, 15])))
 (.seq (.region false [
 ⟨some 16, .mv (.tmp 7), none, [], []⟩,
 ⟨some 17, .mv (.tmp 8), none, [], []⟩,
 ⟨some 18, .build [.nils, (.int .i64 0)] [(0, 1, (.tmp 16)), (1, 1, (.tmp 17))], none, [], []⟩,
 ⟨none, .store 2 (.tmp 6) (.tmp 18), none, [], []⟩])
 .ret)))
def X61 : AFunc := ⟨19, [.cell 6 true 2], X61.main, false⟩
def X41.main : ACode := (.seq (.seq (.region false [
 ⟨some 5, .box 2 (.tmp 2), none, [], []⟩,
 ⟨some 6, .alloc [.nils, (.int .i64 0)], none, [], []⟩])
 (.ghost (.kill [2])))
 (.seq (.region false [
 ⟨some 7, .mv (.tmp 0), none, [], []⟩,
 ⟨some 8, .mv (.tmp 1), none, [], []⟩,
 ⟨some 9, .load true 2 (.tmp 5), none, [], []⟩,
 ⟨some 10, .call true i_X63 [(.tmp 7), (.tmp 8), (.tmp 9), (.cst (.bool false))], none, [], []⟩,
 ⟨none, .store 2 (.tmp 6) (.tmp 10), none, [], []⟩])
 .ret))
def X41 : AFunc := ⟨11, [.cell 6 true 2], X41.main, false⟩
def X49.main : ACode := (.seq (.seq (.region false [
 ⟨some 2, .box 4 (.tmp 0), none, [], []⟩,
 ⟨some 4, .alloc [.nils, (.int .i64 0)], none, [], []⟩])
 (.ghost (.kill [0])))
 (.seq (.seq (.region false [
 ⟨some 8, .faddr 0 (.tmp 2), none, [], []⟩,
 ⟨some 9, .load false 1 (.tmp 8), none, [], []⟩,
 ⟨some 10, .faddr 1 (.tmp 2), none, [], []⟩,
 ⟨some 11, .load false 1 (.tmp 10), none, [], []⟩,
 ⟨some 12, .faddr 2 (.tmp 2), none, [], []⟩,
 ⟨some 13, .load true 2 (.tmp 12), none, [], []⟩,
 ⟨some 14, .mv (.tmp 1), none, [], []⟩,
 ⟨some 15, .call true i_X42 [(.tmp 9), (.tmp 11), (.tmp 13), (.tmp 14)], none, [], []⟩,
 ⟨some 7, .mv (.tmp 15), none, [], []⟩,
 ⟨some 16, .extr (.tmp 7) 0, none, [], []⟩,
 ⟨some 17, .extr (.tmp 7) 1, none, [], []⟩,
 ⟨some 5, .mv (.tmp 16), none, [], []⟩,
 ⟨some 6, .mv (.tmp 17), none, [], []⟩])
 (.ghost (.kill [1, 2, 7, 8, 9, 10, 11, 12, 13, 14, 15, 16, 17])))
 (.seq (.region false [
 ⟨some 18, .mv (.tmp 5), none, [], []⟩,
 ⟨some 19, .mv (.tmp 6), none, [], []⟩,
 ⟨some 20, .build [.nils, (.int .i64 0)] [(0, 1, (.tmp 18)), (1, 1, (.tmp 19))], none, [], []⟩,
 ⟨none, .store 2 (.tmp 4) (.tmp 20), none, [], []⟩])
 .ret)))
def X49 : AFunc := ⟨21, [.cell 4 true 2], X49.main, false⟩
def X27.c0 : ACode := (.seq (.region false [
 ⟨some 67, .mv (.tmp 9), none, [], []⟩,
 ⟨some 68, .build [.nils, (.int .i64 0)] [(0, 1, (.tmp 67))], none, [], []⟩,
 ⟨none, .store 2 (.tmp 8) (.tmp 68), none, [], []⟩])
 .ret)
def X27.c1 : ACode := (.ghost (.kill [0, 1, 3, 6, 10, 30]))
def X27.c2 : ACode := (.seq (.region false [
 ⟨some 31, .mv (.tmp 10), none, [], []⟩,
 ⟨some 32, .bin .add (.tmp 31) (.cst (.int .i64 1)), none, [], []⟩,
 ⟨some 10, .mv (.tmp 32), none, [], []⟩])
 (.ghost (.kill [31, 32])))
def X27.c3 : ACode := (.seq (.seq (.region false [
 ⟨some 59, .mv (.tmp 9), none, [], []⟩,
 ⟨some 60, .faddr 0 (.tmp 11), none, [], []⟩,
 ⟨some 61, .load false 1 (.tmp 60), none, [], []⟩,
 ⟨some 62, .append 1 24 (.tmp 59) (.tmp 61), none, [], []⟩,
 ⟨some 9, .mv (.tmp 62), none, [], []⟩])
 (.ghost (.kill [11, 59, 60, 61, 62])))
 (.seq (.seq (.region false [
 ⟨some 63, .mv (.tmp 9), none, [], []⟩,
 ⟨some 64, .len .sl (.tmp 63), none, [], []⟩,
 ⟨some 65, .bin .gtr (.tmp 64) (.cst (.int .i64 4096)), none, [], []⟩])
 (.ghost (.kill [63, 64])))
 (.cond (.tmp 65) (.seq (.region false [
   ⟨some 66, .build [.nils, (.int .i64 0)] [(1, 1, (.cst (.int .i64 2)))], none, [], []⟩,
   ⟨none, .store 2 (.tmp 8) (.tmp 66), none, [], []⟩])
  .ret)
 .skip)))
def X27.b0 : ACode := (.seq (.seq (.seq (.region false [
 ⟨some 27, .mv (.tmp 10), none, [], []⟩,
 ⟨some 28, .mv (.tmp 0), none, [], []⟩,
 ⟨some 29, .len .sl (.tmp 28), none, [], []⟩,
 ⟨some 30, .bin .lss (.tmp 27) (.tmp 29), none, [], []⟩])
 (.ghost (.kill [27, 28, 29])))
 (.cond (.tmp 30) .skip
 (.exit 0)))
 (.seq (.trunc (.seq (.block 1 (.seq (.seq (.region true [
 ⟨some 33, .mv (.tmp 0), none, [], [0]⟩,
 ⟨some 34, .mv (.tmp 10), none, [], [10]⟩,
 ⟨some 35, .mv (.tmp 10), none, [], [10]⟩,
 ⟨some 36, .bin .add (.tmp 35) (.cst (.int .i64 1)), none, [2], [35]⟩,
 ⟨some 37, .slice 1 (.tmp 33) (some (.tmp 34)) (some (.tmp 36)) none, none, [0, 1, 3], [33, 34, 36]⟩,
 ⟨some 38, .mv (.tmp 1), none, [], [1]⟩,
 ⟨some 39, .load true 2 (.tmp 6), none, [], [6]⟩,
 ⟨some 40, .call true i_X21 [(.tmp 37), (.tmp 38), (.tmp 39)], none, [4, 5, 6], [37, 38, 39]⟩,
 ⟨some 11, .alloc [.nils, (.int .i64 0)], none, [], []⟩,
 ⟨none, .store 2 (.tmp 11) (.tmp 40), none, [8, 7, 7, 0, 1, 2, 3, 4, 5, 6, 7, 8], [11, 40]⟩])
 (.ghost (.kill [30, 33, 34, 35, 36, 37, 38, 39, 40])))
 (.seq (.seq (.seq (.region false [
 ⟨some 41, .faddr 1 (.tmp 11), none, [], []⟩,
 ⟨some 42, .load false 1 (.tmp 41), none, [], []⟩,
 ⟨some 43, .bin .neq (.tmp 42) (.cst (.int .i64 0)), none, [], []⟩])
 (.ghost (.kill [41, 42])))
 (.cond (.tmp 43) (.seq (.region false [
   ⟨some 44, .load true 2 (.tmp 11), none, [], []⟩,
   ⟨none, .store 2 (.tmp 8) (.tmp 44), none, [], []⟩])
  .ret)
 .skip))
 (.seq (.seq (.seq (.region false [
 ⟨some 45, .faddr 0 (.tmp 11), none, [], []⟩,
 ⟨some 46, .load false 1 (.tmp 45), none, [], []⟩,
 ⟨some 47, .len .sl (.tmp 46), none, [], []⟩,
 ⟨some 48, .bin .eql (.tmp 47) (.cst (.int .i64 0)), none, [], []⟩])
 (.ghost (.kill [43, 45, 46, 47])))
 (.seq (.cond (.tmp 48) (.seq (.regionG [
   .op ⟨some 49, .bslice 3 0 [(.int .i64 0), (.int .i64 0), (.str ⟨#[]⟩)] [], none, [], []⟩,
   .op ⟨some 50, .mv (.tmp 0), none, [], []⟩,
   .op ⟨some 51, .mv (.tmp 10), none, [], []⟩,
   .op ⟨some 52, .iaddr 1 (.tmp 50) (.tmp 51), none, [], []⟩,
   .op ⟨some 53, .load false 1 (.tmp 52), none, [], []⟩,
   .op ⟨some 54, .append 3 32 (.tmp 49) (.tmp 53), none, [], []⟩,
   .op ⟨some 55, .mv (.tmp 3), none, [], []⟩,
   .op ⟨some 56, .appendz 3 32 [(.int .i64 0), (.int .i64 0), (.str ⟨#[]⟩)] (.tmp 54) (.tmp 55), none, [], []⟩,
   .gh (.dfreeze 56),
   .op ⟨some 57, .bslice 1 1 [.nils] [(0, (.tmp 56))], none, [], []⟩,
   .op ⟨some 58, .faddr 0 (.tmp 11), none, [], []⟩,
   .op ⟨none, .store 1 (.tmp 58) (.tmp 57), none, [], []⟩])
  (.ghost (.kill [48, 49, 50, 51, 52, 53, 54, 55, 56, 57, 58])))
 .skip)
 (.ghost (.kill [48]))))
 X27.c3))))
 (.ghost (.kill [65]))))
 X27.c2))
def X27.main : ACode := (.seq (.seq (.region false [
 ⟨some 6, .box 2 (.tmp 2), none, [], []⟩,
 ⟨some 8, .alloc [.nils, (.int .i64 0)], none, [], []⟩])
 (.ghost (.kill [2])))
 (.seq (.seq (.seq (.region false [
 ⟨some 12, .mv (.tmp 0), none, [], []⟩,
 ⟨some 13, .mv (.tmp 1), none, [], []⟩,
 ⟨some 14, .load true 2 (.tmp 6), none, [], []⟩,
 ⟨some 15, .call true i_X69 [(.tmp 12), (.tmp 13), (.tmp 14)], none, [], []⟩,
 ⟨some 16, .un .not (.tmp 15), none, [], []⟩,
 ⟨some 17, .mv (.tmp 16), none, [], []⟩,
 ⟨some 18, .mv (.tmp 3), (some ((some 17), false)), [], []⟩,
 ⟨some 19, .bin .lss (.tmp 18) (.cst (.int .i64 0)), (some ((some 17), false)), [], []⟩,
 ⟨some 20, .pick (.tmp 17) (.cst (.bool true)) (.tmp 19), none, [], []⟩,
 ⟨some 21, .mv (.tmp 20), none, [], []⟩,
 ⟨some 22, .mv (.tmp 3), (some ((some 21), false)), [], []⟩,
 ⟨some 23, .bin .gtr (.tmp 22) (.cst (.int .i64 32)), (some ((some 21), false)), [], []⟩,
 ⟨some 24, .pick (.tmp 21) (.cst (.bool true)) (.tmp 23), none, [], []⟩])
 (.ghost (.kill [12, 13, 14, 15, 16, 17, 18, 19, 20, 21, 22, 23])))
 (.cond (.tmp 24) (.seq (.region false [
   ⟨some 25, .build [.nils, (.int .i64 0)] [(1, 1, (.cst (.int .i64 1)))], none, [], []⟩,
   ⟨none, .store 2 (.tmp 8) (.tmp 25), none, [], []⟩])
  .ret)
 .skip))
 (.seq (.seq (.region false [
 ⟨some 26, .bslice 1 0 [.nils] [], none, [], []⟩,
 ⟨some 9, .mv (.tmp 26), none, [], []⟩])
 (.ghost (.kill [24, 26])))
 (.seq (.seq (.region false [
 ⟨some 10, .mv (.cst (.int .i64 0)), none, [], []⟩])
 (.seq (.block 0 (.loop X27.b0))
 X27.c1))
 X27.c0))))
def X27.k0 : List Item := [.inBlock 0, .code X27.c1, .code X27.c0]
def X27 : AFunc := ⟨69, [.cell 8 true 2], X27.main, false⟩
def X65.c0 : ACode := (.seq (.region false [
 ⟨some 55, .mv (.tmp 5), none, [], []⟩,
 ⟨some 4, .mv (.tmp 55), none, [], []⟩])
 .ret)
def X65.c1 : ACode := (.ghost (.kill [0, 1, 6, 12]))
def X65.c2 : ACode := (.seq (.region false [
 ⟨some 13, .mv (.tmp 6), none, [], []⟩,
 ⟨some 14, .bin .add (.tmp 13) (.cst (.int .i64 1)), none, [], []⟩,
 ⟨some 6, .mv (.tmp 14), none, [], []⟩])
 (.ghost (.kill [13, 14])))
def X65.c3 : ACode := (.seq (.seq (.regionD ⟨[40, 44, 50], [], [([40], [45, 46, 47, 48, 49, 51, 52]), ([44], [51, 52])]⟩ [
 ⟨some 40, .bslice 1 0 [.nils] [], none, [], []⟩,
 ⟨some 41, .mv (.tmp 5), none, [], [5]⟩,
 ⟨some 42, .mv (.tmp 7), none, [], [7]⟩,
 ⟨some 43, .slice 1 (.tmp 41) none (some (.tmp 42)) none, none, [1, 2], [41, 42]⟩,
 ⟨some 44, .append 1 24 (.tmp 40) (.tmp 43), none, [0, 3], [40, 43]⟩,
 ⟨some 45, .mv (.tmp 0), none, [], [0]⟩,
 ⟨some 46, .mv (.tmp 6), none, [], [6]⟩,
 ⟨some 47, .iaddr 1 (.tmp 45) (.tmp 46), none, [5, 6], [45, 46]⟩,
 ⟨some 48, .load false 1 (.tmp 47), none, [7], [47]⟩,
 ⟨some 49, .bslice 1 1 [.nils] [(0, (.tmp 48))], none, [8], [48]⟩,
 ⟨some 50, .append 1 24 (.tmp 44) (.tmp 49), none, [4, 9, 4], [44, 49]⟩,
 ⟨some 51, .mv (.tmp 5), none, [], [5]⟩,
 ⟨some 52, .mv (.tmp 7), none, [], [7]⟩,
 ⟨some 53, .slice 1 (.tmp 51) (some (.tmp 52)) none none, none, [11, 12], [51, 52]⟩,
 ⟨some 54, .append 1 24 (.tmp 50) (.tmp 53), none, [10, 13, 10], [50, 53]⟩,
 ⟨some 5, .mv (.tmp 54), none, [14, 14, 0, 1, 2, 3, 4, 5, 6, 7, 8, 9, 10, 11, 12, 13, 14], [54]⟩])
 (.ghost (.freeze 5)))
 (.ghost (.kill [7, 40, 41, 42, 43, 44, 45, 46, 47, 48, 49, 50, 51, 52, 53, 54])))
def X65.b1 : ACode := (.seq (.seq (.seq (.region true [
 ⟨some 17, .mv (.tmp 7), none, [], [7]⟩,
 ⟨some 18, .bin .gtr (.tmp 17) (.cst (.int .i64 0)), none, [0], [17]⟩,
 ⟨some 19, .mv (.tmp 18), none, [1], [18]⟩,
 ⟨some 20, .mv (.tmp 0), (some ((some 19), true)), [2], [0]⟩,
 ⟨some 21, .mv (.tmp 6), (some ((some 19), true)), [2], [6]⟩,
 ⟨some 22, .iaddr 1 (.tmp 20) (.tmp 21), (some ((some 19), true)), [3, 4, 2], [20, 21]⟩,
 ⟨some 23, .load false 1 (.tmp 22), (some ((some 19), true)), [5, 2], [22]⟩,
 ⟨some 24, .mv (.tmp 1), (some ((some 19), true)), [2], [1]⟩,
 ⟨some 25, .iaddr 3 (.tmp 23) (.tmp 24), (some ((some 19), true)), [6, 7, 2], [23, 24]⟩,
 ⟨some 26, .load true 3 (.tmp 25), (some ((some 19), true)), [8, 2], [25]⟩,
 ⟨some 27, .mv (.tmp 5), (some ((some 19), true)), [2], [5]⟩,
 ⟨some 28, .mv (.tmp 7), (some ((some 19), true)), [2], [7]⟩,
 ⟨some 29, .bin .sub (.tmp 28) (.cst (.int .i64 1)), (some ((some 19), true)), [11, 2], [28]⟩,
 ⟨some 30, .iaddr 1 (.tmp 27) (.tmp 29), (some ((some 19), true)), [10, 12, 2], [27, 29]⟩,
 ⟨some 31, .load false 1 (.tmp 30), (some ((some 19), true)), [13, 2], [30]⟩,
 ⟨some 32, .mv (.tmp 1), (some ((some 19), true)), [2], [1]⟩,
 ⟨some 33, .iaddr 3 (.tmp 31) (.tmp 32), (some ((some 19), true)), [14, 15, 2], [31, 32]⟩,
 ⟨some 34, .load true 3 (.tmp 33), (some ((some 19), true)), [16, 2], [33]⟩,
 ⟨some 35, .call true i_X70 [(.tmp 26), (.tmp 34)], (some ((some 19), true)), [9, 17, 2, 2], [26, 34]⟩,
 ⟨some 36, .bin .lss (.tmp 35) (.cst (.int .i64 0)), (some ((some 19), true)), [18, 2], [35]⟩,
 ⟨some 37, .pick (.tmp 19) (.tmp 36) (.cst (.bool false)), none, [2, 19], [19, 36]⟩])
 (.ghost (.kill [17, 18, 19, 20, 21, 22, 23, 24, 25, 26, 27, 28, 29, 30, 31, 32, 33, 34, 35, 36])))
 (.cond (.tmp 37) .skip
 (.exit 2)))
 (.block 3 (.seq (.region false [
 ⟨some 38, .mv (.tmp 7), none, [], []⟩,
 ⟨some 39, .bin .sub (.tmp 38) (.cst (.int .i64 1)), none, [], []⟩,
 ⟨some 7, .mv (.tmp 39), none, [], []⟩])
 (.ghost (.kill [37, 38, 39])))))
def X65.b0 : ACode := (.seq (.seq (.seq (.region false [
 ⟨some 9, .mv (.tmp 6), none, [], []⟩,
 ⟨some 10, .mv (.tmp 0), none, [], []⟩,
 ⟨some 11, .len .sl (.tmp 10), none, [], []⟩,
 ⟨some 12, .bin .lss (.tmp 9) (.tmp 11), none, [], []⟩])
 (.ghost (.kill [9, 10, 11])))
 (.cond (.tmp 12) .skip
 (.exit 0)))
 (.seq (.trunc (.block 1 (.seq (.seq (.region false [
 ⟨some 15, .mv (.tmp 5), none, [], []⟩,
 ⟨some 16, .len .sl (.tmp 15), none, [], []⟩,
 ⟨some 7, .mv (.tmp 16), none, [], []⟩])
 (.ghost (.kill [12, 15, 16])))
 (.seq (.seq (.block 2 (.loop X65.b1))
 (.ghost (.kill [37])))
 X65.c3))))
 X65.c2))
def X65.main : ACode := (.seq (.seq (.region false [
 ⟨some 4, .mv (.cst .nils), none, [], []⟩])
 (.ghost (.kill [4])))
 (.seq (.seq (.seq (.region false [
 ⟨some 8, .bslice 1 0 [.nils] [], none, [], []⟩,
 ⟨some 5, .mv (.tmp 8), none, [], []⟩])
 (.ghost (.freeze 5)))
 (.ghost (.kill [8])))
 (.seq (.seq (.region false [
 ⟨some 6, .mv (.cst (.int .i64 0)), none, [], []⟩])
 (.seq (.block 0 (.loop X65.b0))
 X65.c1))
 X65.c0)))
def X65.k1 (m0 : Nat) : List Item := [.inBlock 2, .code (.ghost (.kill [37])), .code X65.c3, .inBlock 1, .inTrunc m0, .code X65.c2, .inLoop X65.b0, .inBlock 0, .code X65.c1, .code X65.c0]
def X65.k0 : List Item := [.inBlock 0, .code X65.c1, .code X65.c0]
def X65 : AFunc := ⟨56, [.tmp 4], X65.main, false⟩
def X37.c0 : ACode := (.seq (.region false [
 ⟨some 4, .mv (.cst (.bool true)), none, [], []⟩])
 .ret)
def X37.b0 : ACode := (.seq (.seq (.seq (.region false [
 ⟨some 6, .mv (.tmp 5), none, [], []⟩,
 ⟨some 7, .mv (.tmp 0), none, [], []⟩,
 ⟨some 8, .len .sl (.tmp 7), none, [], []⟩,
 ⟨some 9, .bin .lss (.tmp 6) (.tmp 8), none, [], []⟩])
 (.ghost (.kill [6, 7, 8])))
 (.cond (.tmp 9) .skip
 (.exit 0)))
 (.seq (.seq (.block 1 (.seq (.seq (.region true [
 ⟨some 12, .mv (.tmp 0), none, [], [0]⟩,
 ⟨some 13, .mv (.tmp 5), none, [], [5]⟩,
 ⟨some 14, .bin .sub (.tmp 13) (.cst (.int .i64 1)), none, [1], [13]⟩,
 ⟨some 15, .iaddr 1 (.tmp 12) (.tmp 14), none, [0, 2], [12, 14]⟩,
 ⟨some 16, .load false 1 (.tmp 15), none, [3], [15]⟩,
 ⟨some 17, .mv (.tmp 1), none, [], [1]⟩,
 ⟨some 18, .iaddr 3 (.tmp 16) (.tmp 17), none, [4, 5], [16, 17]⟩,
 ⟨some 19, .load true 3 (.tmp 18), none, [6], [18]⟩,
 ⟨some 20, .mv (.tmp 0), none, [], [0]⟩,
 ⟨some 21, .mv (.tmp 5), none, [], [5]⟩,
 ⟨some 22, .iaddr 1 (.tmp 20) (.tmp 21), none, [8, 9], [20, 21]⟩,
 ⟨some 23, .load false 1 (.tmp 22), none, [10], [22]⟩,
 ⟨some 24, .mv (.tmp 1), none, [], [1]⟩,
 ⟨some 25, .iaddr 3 (.tmp 23) (.tmp 24), none, [11, 12], [23, 24]⟩,
 ⟨some 26, .load true 3 (.tmp 25), none, [13], [25]⟩,
 ⟨some 27, .call true i_X70 [(.tmp 19), (.tmp 26)], none, [7, 14], [19, 26]⟩,
 ⟨some 28, .bin .gtr (.tmp 27) (.cst (.int .i64 0)), none, [15], [27]⟩])
 (.ghost (.kill [9, 12, 13, 14, 15, 16, 17, 18, 19, 20, 21, 22, 23, 24, 25, 26, 27])))
 (.cond (.tmp 28) (.seq (.region false [
   ⟨some 4, .mv (.cst (.bool false)), none, [], []⟩])
  .ret)
 .skip)))
 (.ghost (.kill [28])))
 (.seq (.region false [
 ⟨some 10, .mv (.tmp 5), none, [], []⟩,
 ⟨some 11, .bin .add (.tmp 10) (.cst (.int .i64 1)), none, [], []⟩,
 ⟨some 5, .mv (.tmp 11), none, [], []⟩])
 (.ghost (.kill [10, 11])))))
def X37.main : ACode := (.seq (.seq (.region false [
 ⟨some 4, .mv (.cst (.bool false)), none, [], []⟩])
 (.ghost (.kill [4])))
 (.seq (.seq (.region false [
 ⟨some 5, .mv (.cst (.int .i64 1)), none, [], []⟩])
 (.seq (.block 0 (.loop X37.b0))
 (.ghost (.kill [0, 1, 5, 9]))))
 X37.c0))
def X37.k0 : List Item := [.inBlock 0, .code (.ghost (.kill [0, 1, 5, 9])), .code X37.c0]
def X37 : AFunc := ⟨29, [.tmp 4], X37.main, false⟩
def X59.main : ACode := (.seq (.seq (.region false [
 ⟨some 4, .mv (.cst (.bool false)), none, [], []⟩])
 (.ghost (.kill [4])))
 (.seq (.region false [
 ⟨some 5, .mv (.tmp 0), none, [], []⟩,
 ⟨some 6, .mv (.tmp 1), none, [], []⟩,
 ⟨some 7, .call true i_X29 [(.tmp 5), (.tmp 6)], none, [], []⟩,
 ⟨some 8, .bin .eql (.tmp 7) (.cst (.int .i64 0)), none, [], []⟩,
 ⟨some 4, .mv (.tmp 8), none, [], []⟩])
 .ret))
def X59 : AFunc := ⟨9, [.tmp 4], X59.main, false⟩
def X23.c0 : ACode := (.seq (.region false [
 ⟨some 4, .mv (.cst (.bool true)), none, [], []⟩])
 .ret)
def X23.c1 : ACode := (.ghost (.kill [0, 1, 5, 14]))
def X23.b0 : ACode := (.seq (.seq (.seq (.region false [
 ⟨some 11, .mv (.tmp 5), none, [], []⟩,
 ⟨some 12, .mv (.tmp 0), none, [], []⟩,
 ⟨some 13, .len .sl (.tmp 12), none, [], []⟩,
 ⟨some 14, .bin .lss (.tmp 11) (.tmp 13), none, [], []⟩])
 (.ghost (.kill [11, 12, 13])))
 (.cond (.tmp 14) .skip
 (.exit 0)))
 (.seq (.seq (.block 1 (.seq (.seq (.region true [
 ⟨some 17, .mv (.tmp 0), none, [], [0]⟩,
 ⟨some 18, .mv (.tmp 5), none, [], [5]⟩,
 ⟨some 19, .iaddr 1 (.tmp 17) (.tmp 18), none, [0, 1], [17, 18]⟩,
 ⟨some 20, .load false 1 (.tmp 19), none, [2], [19]⟩,
 ⟨some 21, .mv (.tmp 1), none, [], [1]⟩,
 ⟨some 22, .mv (.tmp 5), none, [], [5]⟩,
 ⟨some 23, .iaddr 1 (.tmp 21) (.tmp 22), none, [4, 5], [21, 22]⟩,
 ⟨some 24, .load false 1 (.tmp 23), none, [6], [23]⟩,
 ⟨some 25, .call true i_X59 [(.tmp 20), (.tmp 24)], none, [3, 7], [20, 24]⟩,
 ⟨some 26, .un .not (.tmp 25), none, [8], [25]⟩])
 (.ghost (.kill [14, 17, 18, 19, 20, 21, 22, 23, 24, 25])))
 (.cond (.tmp 26) (.seq (.region false [
   ⟨some 4, .mv (.cst (.bool false)), none, [], []⟩])
  .ret)
 .skip)))
 (.ghost (.kill [26])))
 (.seq (.region false [
 ⟨some 15, .mv (.tmp 5), none, [], []⟩,
 ⟨some 16, .bin .add (.tmp 15) (.cst (.int .i64 1)), none, [], []⟩,
 ⟨some 5, .mv (.tmp 16), none, [], []⟩])
 (.ghost (.kill [15, 16])))))
def X23.main : ACode := (.seq (.seq (.region false [
 ⟨some 4, .mv (.cst (.bool false)), none, [], []⟩])
 (.ghost (.kill [4])))
 (.seq (.seq (.seq (.region false [
 ⟨some 6, .mv (.tmp 0), none, [], []⟩,
 ⟨some 7, .len .sl (.tmp 6), none, [], []⟩,
 ⟨some 8, .mv (.tmp 1), none, [], []⟩,
 ⟨some 9, .len .sl (.tmp 8), none, [], []⟩,
 ⟨some 10, .bin .neq (.tmp 7) (.tmp 9), none, [], []⟩])
 (.ghost (.kill [6, 7, 8, 9])))
 (.cond (.tmp 10) (.seq (.region false [
   ⟨some 4, .mv (.cst (.bool false)), none, [], []⟩])
  .ret)
 .skip))
 (.seq (.seq (.seq (.region false [
 ⟨some 5, .mv (.cst (.int .i64 0)), none, [], []⟩])
 (.ghost (.kill [10])))
 (.seq (.block 0 (.loop X23.b0))
 X23.c1))
 X23.c0)))
def X23.k0 : List Item := [.inBlock 0, .code X23.c1, .code X23.c0]
def X23 : AFunc := ⟨27, [.tmp 4], X23.main, false⟩
def X68.main : ACode := (.seq (.region false [
 ⟨some 2, .alloc [(.int .i64 0), (.int .i64 0), (.str ⟨#[]⟩)], none, [], []⟩])
 (.seq (.region false [
 ⟨some 3, .mv (.tmp 0), none, [], []⟩,
 ⟨some 4, .build [(.int .i64 0), (.int .i64 0), (.str ⟨#[]⟩)] [(0, 1, (.cst (.int .i64 3))), (2, 1, (.tmp 3))], none, [], []⟩,
 ⟨none, .store 3 (.tmp 2) (.tmp 4), none, [], []⟩])
 .ret))
def X68 : AFunc := ⟨5, [.cell 2 true 3], X68.main, false⟩
def X66.main : ACode := (.seq (.region false [
 ⟨some 2, .alloc [(.int .i64 0), (.int .i64 0), (.str ⟨#[]⟩)], none, [], []⟩])
 (.seq (.region false [
 ⟨some 3, .mv (.tmp 0), none, [], []⟩,
 ⟨some 4, .build [(.int .i64 0), (.int .i64 0), (.str ⟨#[]⟩)] [(0, 1, (.cst (.int .i64 2))), (1, 1, (.tmp 3))], none, [], []⟩,
 ⟨none, .store 3 (.tmp 2) (.tmp 4), none, [], []⟩])
 .ret))
def X66 : AFunc := ⟨5, [.cell 2 true 3], X66.main, false⟩
def X64.c0 : ACode := (.seq (.region false [
 ⟨some 58, .mv (.tmp 5), none, [], []⟩,
 ⟨some 4, .mv (.tmp 58), none, [], []⟩])
 .ret)
def X64.c1 : ACode := (.ghost (.kill [0, 1, 6, 24]))
def X64.c2 : ACode := (.seq (.region false [
 ⟨some 25, .mv (.tmp 6), none, [], []⟩,
 ⟨some 26, .mv (.tmp 1), none, [], []⟩,
 ⟨some 27, .bin .add (.tmp 25) (.tmp 26), none, [], []⟩,
 ⟨some 6, .mv (.tmp 27), none, [], []⟩])
 (.ghost (.kill [25, 26, 27])))
def X64.c3 : ACode := (.seq (.ghost (.freeze 7))
 (.seq (.region false [
 ⟨some 54, .mv (.tmp 5), none, [], []⟩,
 ⟨some 55, .mv (.tmp 7), none, [], []⟩,
 ⟨some 56, .bslice 1 1 [.nils] [(0, (.tmp 55))], none, [], []⟩,
 ⟨some 57, .append 1 24 (.tmp 54) (.tmp 56), none, [], []⟩,
 ⟨some 5, .mv (.tmp 57), none, [], []⟩])
 (.ghost (.kill [7, 54, 55, 56, 57]))))
def X64.b1 : ACode := (.seq (.seq (.seq (.region false [
 ⟨some 29, .mv (.tmp 8), none, [], []⟩,
 ⟨some 30, .mv (.tmp 1), none, [], []⟩,
 ⟨some 31, .bin .lss (.tmp 29) (.tmp 30), none, [], []⟩])
 (.ghost (.kill [29, 30])))
 (.cond (.tmp 31) .skip
 (.exit 2)))
 (.seq (.trunc (.block 3 (.seq (.region true [
 ⟨some 34, .mv (.tmp 7), none, [], [7]⟩,
 ⟨some 35, .build [(.int .i64 0), (.int .i64 0), (.str ⟨#[]⟩)] [], none, [], []⟩,
 ⟨some 36, .call true i_X47 [(.cst (.int .i64 0))], none, [], []⟩,
 ⟨some 37, .call true i_X47 [(.cst (.int .i64 1))], none, [2], []⟩,
 ⟨some 38, .call true i_X68 [(.cst (.str ⟨#[97]⟩))], none, [3], []⟩,
 ⟨some 39, .call true i_X47 [(.cst (.int .i64 2))], none, [4], []⟩,
 ⟨some 40, .call true i_X60 [(.cst (.bool true))], none, [5], []⟩,
 ⟨some 41, .call true i_X68 [(.cst (.str ⟨#[]⟩))], none, [6], []⟩,
 ⟨some 42, .bslice 3 7 [(.int .i64 0), (.int .i64 0), (.str ⟨#[]⟩)] [(0, (.tmp 35)), (1, (.tmp 36)), (2, (.tmp 37)), (3, (.tmp 38)), (4, (.tmp 39)), (5, (.tmp 40)), (6, (.tmp 41))], none, [1, 2, 3, 4, 5, 6, 7], [35, 36, 37, 38, 39, 40, 41]⟩,
 ⟨some 43, .mv (.tmp 0), none, [], [0]⟩,
 ⟨some 44, .mv (.tmp 6), none, [], [6]⟩,
 ⟨some 45, .mv (.tmp 8), none, [], [8]⟩,
 ⟨some 46, .bin .add (.tmp 44) (.tmp 45), none, [10, 11], [44, 45]⟩,
 ⟨some 47, .iaddr 1 (.tmp 43) (.tmp 46), none, [9, 12], [43, 46]⟩,
 ⟨some 48, .load false 1 (.tmp 47), none, [13], [47]⟩,
 ⟨some 49, .bin .rem (.tmp 48) (.cst (.int .u8 7)), none, [14], [48]⟩,
 ⟨some 50, .iaddr 3 (.tmp 42) (.tmp 49), none, [8, 15], [42, 49]⟩,
 ⟨some 51, .load true 3 (.tmp 50), none, [16], [50]⟩,
 ⟨some 52, .bslice 3 1 [(.int .i64 0), (.int .i64 0), (.str ⟨#[]⟩)] [(0, (.tmp 51))], none, [17], [51]⟩,
 ⟨some 53, .append 3 32 (.tmp 34) (.tmp 52), none, [0, 18, 7], [34, 52]⟩,
 ⟨some 7, .mv (.tmp 53), none, [19, 19, 0, 1, 2, 3, 4, 5, 6, 7, 8, 9, 10, 11, 12, 13, 14, 15, 16, 17, 18, 19], [53]⟩])
 (.ghost (.kill [31, 34, 35, 36, 37, 38, 39, 40, 41, 42, 43, 44, 45, 46, 47, 48, 49, 50, 51, 52, 53])))))
 (.seq (.region false [
 ⟨some 32, .mv (.tmp 8), none, [], []⟩,
 ⟨some 33, .bin .add (.tmp 32) (.cst (.int .i64 1)), none, [], []⟩,
 ⟨some 8, .mv (.tmp 33), none, [], []⟩])
 (.ghost (.kill [32, 33])))))
def X64.b0 : ACode := (.seq (.seq (.seq (.region false [
 ⟨some 10, .mv (.tmp 6), none, [], []⟩,
 ⟨some 11, .mv (.tmp 1), none, [], []⟩,
 ⟨some 12, .bin .add (.tmp 10) (.tmp 11), none, [], []⟩,
 ⟨some 13, .mv (.tmp 0), none, [], []⟩,
 ⟨some 14, .len .sl (.tmp 13), none, [], []⟩,
 ⟨some 15, .bin .leq (.tmp 12) (.tmp 14), none, [], []⟩,
 ⟨some 16, .mv (.tmp 15), none, [], []⟩,
 ⟨some 17, .mv (.tmp 1), (some ((some 16), true)), [], []⟩,
 ⟨some 18, .bin .gtr (.tmp 17) (.cst (.int .i64 0)), (some ((some 16), true)), [], []⟩,
 ⟨some 19, .pick (.tmp 16) (.tmp 18) (.cst (.bool false)), none, [], []⟩,
 ⟨some 20, .mv (.tmp 19), none, [], []⟩,
 ⟨some 21, .mv (.tmp 5), (some ((some 20), true)), [], []⟩,
 ⟨some 22, .len .sl (.tmp 21), (some ((some 20), true)), [], []⟩,
 ⟨some 23, .bin .lss (.tmp 22) (.cst (.int .i64 20)), (some ((some 20), true)), [], []⟩,
 ⟨some 24, .pick (.tmp 20) (.tmp 23) (.cst (.bool false)), none, [], []⟩])
 (.ghost (.kill [10, 11, 12, 13, 14, 15, 16, 17, 18, 19, 20, 21, 22, 23])))
 (.cond (.tmp 24) .skip
 (.exit 0)))
 (.seq (.trunc (.block 1 (.seq (.seq (.region false [
 ⟨some 28, .bslice 3 0 [(.int .i64 0), (.int .i64 0), (.str ⟨#[]⟩)] [], none, [], []⟩,
 ⟨some 7, .mv (.tmp 28), none, [], []⟩])
 (.ghost (.kill [24, 28])))
 (.seq (.seq (.region false [
 ⟨some 8, .mv (.cst (.int .i64 0)), none, [], []⟩])
 (.seq (.block 2 (.loop X64.b1))
 (.ghost (.kill [8, 31]))))
 X64.c3))))
 X64.c2))
def X64.main : ACode := (.seq (.seq (.region false [
 ⟨some 4, .mv (.cst .nils), none, [], []⟩])
 (.ghost (.kill [4])))
 (.seq (.seq (.region false [
 ⟨some 9, .bslice 1 0 [.nils] [], none, [], []⟩,
 ⟨some 5, .mv (.tmp 9), none, [], []⟩])
 (.ghost (.kill [9])))
 (.seq (.seq (.region false [
 ⟨some 6, .mv (.cst (.int .i64 0)), none, [], []⟩])
 (.seq (.block 0 (.loop X64.b0))
 X64.c1))
 X64.c0)))
def X64.k1 (m0 : Nat) : List Item := [.inBlock 2, .code (.ghost (.kill [8, 31])), .code X64.c3, .inBlock 1, .inTrunc m0, .code X64.c2, .inLoop X64.b0, .inBlock 0, .code X64.c1, .code X64.c0]
def X64.k0 : List Item := [.inBlock 0, .code X64.c1, .code X64.c0]
def X64 : AFunc := ⟨59, [.tmp 4], X64.main, false⟩
def X31.main : ACode := (.seq (.seq (.region false [
 ⟨some 5, .box 2 (.tmp 2), none, [], []⟩,
 ⟨some 6, .mv (.cst .nils), none, [], []⟩,
 ⟨some 7, .mv (.cst (.int .i64 0)), none, [], []⟩])
 (.ghost (.kill [2, 6, 7])))
 (.seq (.seq (.seq (.region false [
 ⟨some 8, .mv (.tmp 0), none, [], []⟩,
 ⟨some 9, .mv (.tmp 1), none, [], []⟩,
 ⟨some 10, .load true 2 (.tmp 5), none, [], []⟩,
 ⟨some 11, .call true i_X54 [(.tmp 8), (.tmp 9), (.tmp 10)], none, [], []⟩,
 ⟨some 12, .un .not (.tmp 11), none, [], []⟩])
 (.ghost (.kill [8, 9, 10, 11])))
 (.cond (.tmp 12) (.seq (.region false [
   ⟨some 6, .mv (.cst .nils), none, [], []⟩,
   ⟨some 7, .mv (.cst (.int .i64 1)), none, [], []⟩])
  .ret)
 .skip))
 (.seq (.region false [
 ⟨some 13, .mv (.tmp 0), none, [], []⟩,
 ⟨some 14, .mv (.tmp 1), none, [], []⟩,
 ⟨some 15, .load true 2 (.tmp 5), none, [], []⟩,
 ⟨some 16, .call true i_X51 [(.tmp 14), (.tmp 15)], none, [], []⟩,
 ⟨some 17, .call true i_X24 [(.tmp 13), (.tmp 16), (.cst (.int .i64 (-1)))], none, [], []⟩,
 ⟨some 18, .extr (.tmp 17) 0, none, [], []⟩,
 ⟨some 19, .extr (.tmp 17) 1, none, [], []⟩,
 ⟨some 6, .mv (.tmp 18), none, [], []⟩,
 ⟨some 7, .mv (.tmp 19), none, [], []⟩])
 .ret)))
def X31 : AFunc := ⟨20, [.tmp 6, .tmp 7], X31.main, false⟩
def X69.main : ACode := (.seq (.seq (.region false [
 ⟨some 5, .box 2 (.tmp 2), none, [], []⟩,
 ⟨some 6, .mv (.cst (.bool false)), none, [], []⟩])
 (.ghost (.kill [2, 6])))
 (.seq (.region false [
 ⟨some 7, .mv (.tmp 0), none, [], []⟩,
 ⟨some 8, .iaddrA 2 1 (.tmp 5) (.cst (.int .i64 0)), none, [], []⟩,
 ⟨some 9, .load false 1 (.tmp 8), none, [], []⟩,
 ⟨some 10, .call true i_X67 [(.tmp 7), (.tmp 9)], none, [], []⟩,
 ⟨some 11, .mv (.tmp 10), none, [], []⟩,
 ⟨some 12, .mv (.tmp 1), (some ((some 11), true)), [], []⟩,
 ⟨some 13, .iaddrA 2 1 (.tmp 5) (.cst (.int .i64 1)), (some ((some 11), true)), [], []⟩,
 ⟨some 14, .load false 1 (.tmp 13), (some ((some 11), true)), [], []⟩,
 ⟨some 15, .call true i_X67 [(.tmp 12), (.tmp 14)], (some ((some 11), true)), [], []⟩,
 ⟨some 16, .pick (.tmp 11) (.tmp 15) (.cst (.bool false)), none, [], []⟩,
 ⟨some 6, .mv (.tmp 16), none, [], []⟩])
 .ret))
def X69 : AFunc := ⟨17, [.tmp 6], X69.main, false⟩
def X22.main : ACode := (.seq (.seq (.region false [
 ⟨some 5, .box 2 (.tmp 2), none, [], []⟩,
 ⟨some 6, .mv (.cst (.bool false)), none, [], []⟩])
 (.ghost (.kill [2, 6])))
 (.seq (.region true [
 ⟨some 7, .mv (.tmp 0), none, [], [0]⟩,
 ⟨some 8, .iaddrA 2 1 (.tmp 5) (.cst (.int .i64 0)), none, [], [5]⟩,
 ⟨some 9, .load false 1 (.tmp 8), none, [1], [8]⟩,
 ⟨some 10, .iaddr 3 (.tmp 7) (.tmp 9), none, [0, 2], [7, 9]⟩,
 ⟨some 11, .faddr 0 (.tmp 10), none, [3], [10]⟩,
 ⟨some 12, .load false 1 (.tmp 11), none, [4], [11]⟩,
 ⟨some 13, .bin .neq (.tmp 12) (.cst (.int .i64 0)), none, [5], [12]⟩,
 ⟨some 14, .mv (.tmp 13), none, [6], [13]⟩,
 ⟨some 15, .mv (.tmp 0), (some ((some 14), true)), [7], [0]⟩,
 ⟨some 16, .iaddrA 2 1 (.tmp 5) (.cst (.int .i64 0)), (some ((some 14), true)), [7], [5]⟩,
 ⟨some 17, .load false 1 (.tmp 16), (some ((some 14), true)), [9, 7], [16]⟩,
 ⟨some 18, .iaddr 3 (.tmp 15) (.tmp 17), (some ((some 14), true)), [8, 10, 7], [15, 17]⟩,
 ⟨some 19, .load true 3 (.tmp 18), (some ((some 14), true)), [11, 7], [18]⟩,
 ⟨some 20, .mv (.tmp 1), (some ((some 14), true)), [7], [1]⟩,
 ⟨some 21, .iaddrA 2 1 (.tmp 5) (.cst (.int .i64 1)), (some ((some 14), true)), [7], [5]⟩,
 ⟨some 22, .load false 1 (.tmp 21), (some ((some 14), true)), [14, 7], [21]⟩,
 ⟨some 23, .iaddr 3 (.tmp 20) (.tmp 22), (some ((some 14), true)), [13, 15, 7], [20, 22]⟩,
 ⟨some 24, .load true 3 (.tmp 23), (some ((some 14), true)), [16, 7], [23]⟩,
 ⟨some 25, .eqs false (.row [(0, 1, false, (.int .i64)), (1, 1, false, (.int .i64)), (2, 1, false, .str)]) (.tmp 19) (.tmp 24), (some ((some 14), true)), [12, 17, 7], [19, 24]⟩,
 ⟨some 26, .pick (.tmp 14) (.tmp 25) (.cst (.bool false)), none, [7, 18], [14, 25]⟩,
 ⟨some 6, .mv (.tmp 26), none, [19, 7, 0, 1, 2, 3, 4, 5, 6, 7, 8, 9, 10, 11, 12, 13, 14, 15, 16, 17, 18, 19], [26]⟩])
 .ret))
def X22 : AFunc := ⟨27, [.tmp 6], X22.main, false⟩
def X45.main : ACode := (.seq (.seq (.region false [
 ⟨some 5, .box 2 (.tmp 2), none, [], []⟩,
 ⟨some 6, .mv (.cst .nils), none, [], []⟩,
 ⟨some 7, .mv (.cst (.int .i64 0)), none, [], []⟩])
 (.ghost (.kill [2, 6, 7])))
 (.seq (.seq (.seq (.region false [
 ⟨some 8, .mv (.tmp 0), none, [], []⟩,
 ⟨some 9, .mv (.tmp 1), none, [], []⟩,
 ⟨some 10, .load true 2 (.tmp 5), none, [], []⟩,
 ⟨some 11, .call true i_X54 [(.tmp 8), (.tmp 9), (.tmp 10)], none, [], []⟩,
 ⟨some 12, .un .not (.tmp 11), none, [], []⟩])
 (.ghost (.kill [8, 9, 10, 11])))
 (.cond (.tmp 12) (.seq (.region false [
   ⟨some 6, .mv (.cst .nils), none, [], []⟩,
   ⟨some 7, .mv (.cst (.int .i64 1)), none, [], []⟩])
  .ret)
 .skip))
 (.seq (.region false [
 ⟨some 13, .mv (.tmp 0), none, [], []⟩,
 ⟨some 14, .mv (.tmp 1), none, [], []⟩,
 ⟨some 15, .load true 2 (.tmp 5), none, [], []⟩,
 ⟨some 16, .call true i_X40 [(.tmp 14), (.tmp 15)], none, [], []⟩,
 ⟨some 17, .call true i_X24 [(.tmp 13), (.tmp 16), (.cst (.int .i64 (-1)))], none, [], []⟩,
 ⟨some 18, .extr (.tmp 17) 0, none, [], []⟩,
 ⟨some 19, .extr (.tmp 17) 1, none, [], []⟩,
 ⟨some 6, .mv (.tmp 18), none, [], []⟩,
 ⟨some 7, .mv (.tmp 19), none, [], []⟩])
 .ret)))
def X45 : AFunc := ⟨20, [.tmp 6, .tmp 7], X45.main, false⟩
def X35.main : ACode := (.seq (.seq (.region false [
 ⟨some 5, .box 2 (.tmp 2), none, [], []⟩,
 ⟨some 6, .mv (.cst .nils), none, [], []⟩,
 ⟨some 7, .mv (.cst (.int .i64 0)), none, [], []⟩])
 (.ghost (.kill [2, 6, 7])))
 (.seq (.region false [
 ⟨some 8, .mv (.cst (.clo (.func i_X18) [] [])), none, [], []⟩])
 (.seq (.seq (.seq (.region false [
 ⟨some 9, .mv (.tmp 0), none, [], []⟩,
 ⟨some 10, .mv (.tmp 1), none, [], []⟩,
 ⟨some 11, .load true 2 (.tmp 5), none, [], []⟩,
 ⟨some 12, .call true i_X54 [(.tmp 9), (.tmp 10), (.tmp 11)], none, [], []⟩,
 ⟨some 13, .un .not (.tmp 12), none, [], []⟩,
 ⟨some 14, .mv (.tmp 13), none, [], []⟩,
 ⟨some 15, .mv (.tmp 0), (some ((some 14), false)), [], []⟩,
 ⟨some 16, .mv (.tmp 8), (some ((some 14), false)), [], []⟩,
 ⟨some 17, .iaddrA 2 1 (.tmp 5) (.cst (.int .i64 0)), (some ((some 14), false)), [], []⟩,
 ⟨some 18, .load false 1 (.tmp 17), (some ((some 14), false)), [], []⟩,
 ⟨some 19, .callv true (.tmp 16) [(.tmp 18)], (some ((some 14), false)), [], []⟩,
 ⟨some 20, .call true i_X1 [(.tmp 15), (.tmp 19)], (some ((some 14), false)), [], []⟩,
 ⟨some 21, .un .not (.tmp 20), (some ((some 14), false)), [], []⟩,
 ⟨some 22, .pick (.tmp 14) (.cst (.bool true)) (.tmp 21), none, [], []⟩,
 ⟨some 23, .mv (.tmp 22), none, [], []⟩,
 ⟨some 24, .mv (.tmp 1), (some ((some 23), false)), [], []⟩,
 ⟨some 25, .mv (.tmp 8), (some ((some 23), false)), [], []⟩,
 ⟨some 26, .iaddrA 2 1 (.tmp 5) (.cst (.int .i64 1)), (some ((some 23), false)), [], []⟩,
 ⟨some 27, .load false 1 (.tmp 26), (some ((some 23), false)), [], []⟩,
 ⟨some 28, .callv true (.tmp 25) [(.tmp 27)], (some ((some 23), false)), [], []⟩,
 ⟨some 29, .call true i_X1 [(.tmp 24), (.tmp 28)], (some ((some 23), false)), [], []⟩,
 ⟨some 30, .un .not (.tmp 29), (some ((some 23), false)), [], []⟩,
 ⟨some 31, .pick (.tmp 23) (.cst (.bool true)) (.tmp 30), none, [], []⟩])
 (.ghost (.kill [8, 9, 10, 11, 12, 13, 14, 15, 16, 17, 18, 19, 20, 21, 22, 23, 24, 25, 26, 27, 28, 29, 30])))
 (.cond (.tmp 31) (.seq (.region false [
   ⟨some 6, .mv (.cst .nils), none, [], []⟩,
   ⟨some 7, .mv (.cst (.int .i64 1)), none, [], []⟩])
  .ret)
 .skip))
 (.seq (.region false [
 ⟨some 32, .mv (.tmp 0), none, [], []⟩,
 ⟨some 33, .mv (.tmp 1), none, [], []⟩,
 ⟨some 34, .load true 2 (.tmp 5), none, [], []⟩,
 ⟨some 35, .call false i_X43 [(.tmp 33), (.tmp 34)], none, [], []⟩,
 ⟨some 36, .call false i_X24 [(.tmp 32), (.tmp 35), (.cst (.int .i64 (-1)))], none, [], []⟩,
 ⟨some 37, .extr (.tmp 36) 0, none, [], []⟩,
 ⟨some 38, .extr (.tmp 36) 1, none, [], []⟩,
 ⟨some 6, .mv (.tmp 37), none, [], []⟩,
 ⟨some 7, .mv (.tmp 38), none, [], []⟩])
 .ret))))
def X35 : AFunc := ⟨39, [.tmp 6, .tmp 7], X35.main, false⟩
def X53.main : ACode := (.seq (.seq (.region false [
 ⟨some 5, .box 2 (.tmp 2), none, [], []⟩,
 ⟨some 6, .mv (.cst .nils), none, [], []⟩,
 ⟨some 7, .mv (.cst (.int .i64 0)), none, [], []⟩])
 (.ghost (.kill [2, 6, 7])))
 (.seq (.region false [
 ⟨some 8, .mv (.tmp 0), none, [], []⟩,
 ⟨some 9, .mv (.tmp 1), none, [], []⟩,
 ⟨some 10, .load true 2 (.tmp 5), none, [], []⟩,
 ⟨some 11, .call true i_X50 [(.tmp 8), (.tmp 9), (.tmp 10), (.cst (.bool true))], none, [], []⟩,
 ⟨some 12, .extr (.tmp 11) 0, none, [], []⟩,
 ⟨some 13, .extr (.tmp 11) 1, none, [], []⟩,
 ⟨some 6, .mv (.tmp 12), none, [], []⟩,
 ⟨some 7, .mv (.tmp 13), none, [], []⟩])
 .ret))
def X53 : AFunc := ⟨14, [.tmp 6, .tmp 7], X53.main, false⟩
def X63.c0 : ACode := (.seq (.region false [
 ⟨some 42, .load true 2 (.tmp 9), none, [], []⟩,
 ⟨none, .store 2 (.tmp 8) (.tmp 42), none, [], []⟩])
 .ret)
def X63.c1 : ACode := (.ghost (.kill [0, 1, 3, 6, 10, 21]))
def X63.c2 : ACode := (.seq (.region false [
 ⟨some 22, .mv (.tmp 10), none, [], []⟩,
 ⟨some 23, .bin .add (.tmp 22) (.cst (.int .i64 1)), none, [], []⟩,
 ⟨some 10, .mv (.tmp 23), none, [], []⟩])
 (.ghost (.kill [22, 23])))
def X63.b0 : ACode := (.seq (.seq (.seq (.region false [
 ⟨some 18, .mv (.tmp 10), none, [], []⟩,
 ⟨some 19, .mv (.tmp 0), none, [], []⟩,
 ⟨some 20, .len .sl (.tmp 19), none, [], []⟩,
 ⟨some 21, .bin .lss (.tmp 18) (.tmp 20), none, [], []⟩])
 (.ghost (.kill [18, 19, 20])))
 (.cond (.tmp 21) .skip
 (.exit 0)))
 (.seq (.trunc (.block 1 (.seq (.seq (.region true [
 ⟨some 24, .mv (.tmp 0), none, [], [0]⟩,
 ⟨some 25, .mv (.tmp 10), none, [], [10]⟩,
 ⟨some 26, .iaddr 1 (.tmp 24) (.tmp 25), none, [0, 1], [24, 25]⟩,
 ⟨some 27, .load false 1 (.tmp 26), none, [2], [26]⟩,
 ⟨some 28, .mv (.tmp 1), none, [], [1]⟩,
 ⟨some 29, .load true 2 (.tmp 6), none, [], [6]⟩,
 ⟨some 30, .call true i_X28 [(.tmp 27), (.tmp 28), (.tmp 29)], none, [3, 4, 5], [27, 28, 29]⟩,
 ⟨some 31, .mv (.tmp 3), none, [], [3]⟩,
 ⟨some 32, .eqs false .bool (.tmp 30) (.tmp 31), none, [6, 7], [30, 31]⟩])
 (.ghost (.kill [21, 24, 25, 26, 27, 28, 29, 30, 31])))
 (.seq (.cond (.tmp 32) (.seq (.region true [
   ⟨some 33, .faddr 0 (.tmp 9), none, [], [9]⟩,
   ⟨some 34, .load false 1 (.tmp 33), none, [0], [33]⟩,
   ⟨some 35, .mv (.tmp 0), none, [], [0]⟩,
   ⟨some 36, .mv (.tmp 10), none, [], [10]⟩,
   ⟨some 37, .iaddr 1 (.tmp 35) (.tmp 36), none, [2, 3], [35, 36]⟩,
   ⟨some 38, .load false 1 (.tmp 37), none, [4], [37]⟩,
   ⟨some 39, .bslice 1 1 [.nils] [(0, (.tmp 38))], none, [5], [38]⟩,
   ⟨some 40, .append 1 24 (.tmp 34) (.tmp 39), none, [1, 6], [34, 39]⟩,
   ⟨some 41, .faddr 0 (.tmp 9), none, [0, 1, 2, 3, 4, 5, 6, 7], [9]⟩,
   ⟨none, .store 1 (.tmp 41) (.tmp 40), none, [8, 7, 7, 0, 1, 2, 3, 4, 5, 6, 7], [41, 40]⟩])
  (.ghost (.kill [32, 33, 34, 35, 36, 37, 38, 39, 40, 41])))
 .skip)
 (.ghost (.kill [32]))))))
 X63.c2))
def X63.main : ACode := (.seq (.seq (.region false [
 ⟨some 6, .box 2 (.tmp 2), none, [], []⟩,
 ⟨some 8, .alloc [.nils, (.int .i64 0)], none, [], []⟩])
 (.ghost (.kill [2])))
 (.seq (.seq (.seq (.region false [
 ⟨some 11, .mv (.tmp 0), none, [], []⟩,
 ⟨some 12, .mv (.tmp 1), none, [], []⟩,
 ⟨some 13, .load true 2 (.tmp 6), none, [], []⟩,
 ⟨some 14, .call true i_X69 [(.tmp 11), (.tmp 12), (.tmp 13)], none, [], []⟩,
 ⟨some 15, .un .not (.tmp 14), none, [], []⟩])
 (.ghost (.kill [11, 12, 13, 14])))
 (.cond (.tmp 15) (.seq (.region false [
   ⟨some 16, .build [.nils, (.int .i64 0)] [(1, 1, (.cst (.int .i64 1)))], none, [], []⟩,
   ⟨none, .store 2 (.tmp 8) (.tmp 16), none, [], []⟩])
  .ret)
 .skip))
 (.seq (.seq (.regionG [
  .op ⟨some 17, .build [.nils, (.int .i64 0)] [], none, [], []⟩,
  .gh (.nilagg 17 0 1),
  .op ⟨some 9, .alloc [.nils, (.int .i64 0)], none, [], []⟩,
  .op ⟨none, .store 2 (.tmp 9) (.tmp 17), none, [], []⟩])
 (.ghost (.kill [15, 17])))
 (.seq (.seq (.region false [
 ⟨some 10, .mv (.cst (.int .i64 0)), none, [], []⟩])
 (.seq (.block 0 (.loop X63.b0))
 X63.c1))
 X63.c0))))
def X63.k0 : List Item := [.inBlock 0, .code X63.c1, .code X63.c0]
def X63 : AFunc := ⟨43, [.cell 8 true 2], X63.main, false⟩
def X48.main : ACode := (.seq (.seq (.region false [
 ⟨some 5, .box 2 (.tmp 2), none, [], []⟩,
 ⟨some 6, .mv (.cst .nils), none, [], []⟩,
 ⟨some 7, .mv (.cst (.int .i64 0)), none, [], []⟩])
 (.ghost (.kill [2, 6, 7])))
 (.seq (.region false [
 ⟨some 8, .mv (.tmp 0), none, [], []⟩,
 ⟨some 9, .mv (.tmp 1), none, [], []⟩,
 ⟨some 10, .load true 2 (.tmp 5), none, [], []⟩,
 ⟨some 11, .call true i_X50 [(.tmp 8), (.tmp 9), (.tmp 10), (.cst (.bool false))], none, [], []⟩,
 ⟨some 12, .extr (.tmp 11) 0, none, [], []⟩,
 ⟨some 13, .extr (.tmp 11) 1, none, [], []⟩,
 ⟨some 6, .mv (.tmp 12), none, [], []⟩,
 ⟨some 7, .mv (.tmp 13), none, [], []⟩])
 .ret))
def X48 : AFunc := ⟨14, [.tmp 6, .tmp 7], X48.main, false⟩
def X42.main : ACode := (.seq (.seq (.region false [
 ⟨some 6, .box 2 (.tmp 2), none, [], []⟩,
 ⟨some 8, .mv (.cst .nils), none, [], []⟩,
 ⟨some 9, .mv (.cst (.int .i64 0)), none, [], []⟩])
 (.ghost (.kill [2, 8, 9])))
 (.seq (.seq (.seq (.region false [
 ⟨some 10, .mv (.tmp 0), none, [], []⟩,
 ⟨some 11, .mv (.tmp 1), none, [], []⟩,
 ⟨some 12, .load true 2 (.tmp 6), none, [], []⟩,
 ⟨some 13, .call true i_X54 [(.tmp 10), (.tmp 11), (.tmp 12)], none, [], []⟩,
 ⟨some 14, .un .not (.tmp 13), none, [], []⟩,
 ⟨some 15, .mv (.tmp 14), none, [], []⟩,
 ⟨some 16, .mv (.tmp 3), (some ((some 15), false)), [], []⟩,
 ⟨some 17, .bin .lss (.tmp 16) (.cst (.int .i64 0)), (some ((some 15), false)), [], []⟩,
 ⟨some 18, .pick (.tmp 15) (.cst (.bool true)) (.tmp 17), none, [], []⟩,
 ⟨some 19, .mv (.tmp 18), none, [], []⟩,
 ⟨some 20, .mv (.tmp 3), (some ((some 19), false)), [], []⟩,
 ⟨some 21, .bin .gtr (.tmp 20) (.cst (.int .i64 32)), (some ((some 19), false)), [], []⟩,
 ⟨some 22, .pick (.tmp 19) (.cst (.bool true)) (.tmp 21), none, [], []⟩])
 (.ghost (.kill [10, 11, 12, 13, 14, 15, 16, 17, 18, 19, 20, 21])))
 (.cond (.tmp 22) (.seq (.region false [
   ⟨some 8, .mv (.cst .nils), none, [], []⟩,
   ⟨some 9, .mv (.cst (.int .i64 1)), none, [], []⟩])
  .ret)
 .skip))
 (.seq (.region false [
 ⟨some 23, .mv (.tmp 0), none, [], []⟩,
 ⟨some 24, .mv (.tmp 1), none, [], []⟩,
 ⟨some 25, .load true 2 (.tmp 6), none, [], []⟩,
 ⟨some 26, .call true i_X40 [(.tmp 24), (.tmp 25)], none, [], []⟩,
 ⟨some 27, .mv (.tmp 3), none, [], []⟩,
 ⟨some 28, .call true i_X24 [(.tmp 23), (.tmp 26), (.tmp 27)], none, [], []⟩,
 ⟨some 29, .extr (.tmp 28) 0, none, [], []⟩,
 ⟨some 30, .extr (.tmp 28) 1, none, [], []⟩,
 ⟨some 8, .mv (.tmp 29), none, [], []⟩,
 ⟨some 9, .mv (.tmp 30), none, [], []⟩])
 .ret)))
def X42 : AFunc := ⟨31, [.tmp 8, .tmp 9], X42.main, false⟩
def X70.main : ACode := (.seq (.seq (.region false [
 ⟨some 2, .box 3 (.tmp 0), none, [], []⟩,
 ⟨some 3, .box 3 (.tmp 1), none, [], []⟩,
 ⟨some 4, .mv (.cst (.int .i64 0)), none, [], []⟩])
 (.ghost (.kill [0, 1, 4])))
 (.seq (.seq (.seq (.region false [
 ⟨some 5, .faddr 0 (.tmp 2), none, [], []⟩,
 ⟨some 6, .load false 1 (.tmp 5), none, [], []⟩,
 ⟨some 7, .faddr 0 (.tmp 3), none, [], []⟩,
 ⟨some 8, .load false 1 (.tmp 7), none, [], []⟩,
 ⟨some 9, .bin .neq (.tmp 6) (.tmp 8), none, [], []⟩])
 (.ghost (.kill [5, 6, 7, 8])))
 (.cond (.tmp 9) (.seq (.region false [
   ⟨some 10, .faddr 0 (.tmp 2), none, [], []⟩,
   ⟨some 11, .load false 1 (.tmp 10), none, [], []⟩,
   ⟨some 12, .faddr 0 (.tmp 3), none, [], []⟩,
   ⟨some 13, .load false 1 (.tmp 12), none, [], []⟩,
   ⟨some 14, .call true i_X57 [(.tmp 11), (.tmp 13)], none, [], []⟩,
   ⟨some 4, .mv (.tmp 14), none, [], []⟩])
  .ret)
 .skip))
 (.seq (.seq (.seq (.region false [
 ⟨some 15, .faddr 1 (.tmp 2), none, [], []⟩,
 ⟨some 16, .load false 1 (.tmp 15), none, [], []⟩,
 ⟨some 17, .faddr 1 (.tmp 3), none, [], []⟩,
 ⟨some 18, .load false 1 (.tmp 17), none, [], []⟩,
 ⟨some 19, .bin .neq (.tmp 16) (.tmp 18), none, [], []⟩])
 (.ghost (.kill [9, 15, 16, 17, 18])))
 (.cond (.tmp 19) (.seq (.region false [
   ⟨some 20, .faddr 1 (.tmp 2), none, [], []⟩,
   ⟨some 21, .load false 1 (.tmp 20), none, [], []⟩,
   ⟨some 22, .faddr 1 (.tmp 3), none, [], []⟩,
   ⟨some 23, .load false 1 (.tmp 22), none, [], []⟩,
   ⟨some 24, .call true i_X57 [(.tmp 21), (.tmp 23)], none, [], []⟩,
   ⟨some 4, .mv (.tmp 24), none, [], []⟩])
  .ret)
 .skip))
 (.seq (.region false [
 ⟨some 25, .faddr 2 (.tmp 2), none, [], []⟩,
 ⟨some 26, .load false 1 (.tmp 25), none, [], []⟩,
 ⟨some 27, .faddr 2 (.tmp 3), none, [], []⟩,
 ⟨some 28, .load false 1 (.tmp 27), none, [], []⟩,
 ⟨some 29, .call true i_X32 [(.tmp 26), (.tmp 28)], none, [], []⟩,
 ⟨some 4, .mv (.tmp 29), none, [], []⟩])
 .ret))))
def X70 : AFunc := ⟨30, [.tmp 4], X70.main, false⟩
def X29.c0 : ACode := (.seq (.region false [
 ⟨some 31, .mv (.tmp 0), none, [], []⟩,
 ⟨some 32, .len .sl (.tmp 31), none, [], []⟩,
 ⟨some 33, .mv (.tmp 1), none, [], []⟩,
 ⟨some 34, .len .sl (.tmp 33), none, [], []⟩,
 ⟨some 35, .call true i_X57 [(.tmp 32), (.tmp 34)], none, [], []⟩,
 ⟨some 4, .mv (.tmp 35), none, [], []⟩])
 .ret)
def X29.b0 : ACode := (.seq (.seq (.seq (.region false [
 ⟨some 7, .mv (.tmp 5), none, [], []⟩,
 ⟨some 8, .mv (.tmp 0), none, [], []⟩,
 ⟨some 9, .len .sl (.tmp 8), none, [], []⟩,
 ⟨some 10, .bin .lss (.tmp 7) (.tmp 9), none, [], []⟩,
 ⟨some 11, .mv (.tmp 10), none, [], []⟩,
 ⟨some 12, .mv (.tmp 5), (some ((some 11), true)), [], []⟩,
 ⟨some 13, .mv (.tmp 1), (some ((some 11), true)), [], []⟩,
 ⟨some 14, .len .sl (.tmp 13), (some ((some 11), true)), [], []⟩,
 ⟨some 15, .bin .lss (.tmp 12) (.tmp 14), (some ((some 11), true)), [], []⟩,
 ⟨some 16, .pick (.tmp 11) (.tmp 15) (.cst (.bool false)), none, [], []⟩])
 (.ghost (.kill [7, 8, 9, 10, 11, 12, 13, 14, 15])))
 (.cond (.tmp 16) .skip
 (.exit 0)))
 (.seq (.seq (.block 1 (.seq (.seq (.region true [
 ⟨some 19, .mv (.tmp 0), none, [], [0]⟩,
 ⟨some 20, .mv (.tmp 5), none, [], [5]⟩,
 ⟨some 21, .iaddr 3 (.tmp 19) (.tmp 20), none, [0, 1], [19, 20]⟩,
 ⟨some 22, .load true 3 (.tmp 21), none, [2], [21]⟩,
 ⟨some 23, .mv (.tmp 1), none, [], [1]⟩,
 ⟨some 24, .mv (.tmp 5), none, [], [5]⟩,
 ⟨some 25, .iaddr 3 (.tmp 23) (.tmp 24), none, [4, 5], [23, 24]⟩,
 ⟨some 26, .load true 3 (.tmp 25), none, [6], [25]⟩,
 ⟨some 27, .call true i_X70 [(.tmp 22), (.tmp 26)], none, [3, 7], [22, 26]⟩,
 ⟨some 6, .mv (.tmp 27), none, [8, 8, 0, 1, 2, 3, 4, 5, 6, 7, 8], [27]⟩])
 (.ghost (.kill [16, 19, 20, 21, 22, 23, 24, 25, 26, 27])))
 (.seq (.seq (.region false [
 ⟨some 28, .mv (.tmp 6), none, [], []⟩,
 ⟨some 29, .bin .neq (.tmp 28) (.cst (.int .i64 0)), none, [], []⟩])
 (.ghost (.kill [28])))
 (.cond (.tmp 29) (.seq (.region false [
   ⟨some 30, .mv (.tmp 6), none, [], []⟩,
   ⟨some 4, .mv (.tmp 30), none, [], []⟩])
  .ret)
 .skip))))
 (.ghost (.kill [6, 29])))
 (.seq (.region false [
 ⟨some 17, .mv (.tmp 5), none, [], []⟩,
 ⟨some 18, .bin .add (.tmp 17) (.cst (.int .i64 1)), none, [], []⟩,
 ⟨some 5, .mv (.tmp 18), none, [], []⟩])
 (.ghost (.kill [17, 18])))))
def X29.main : ACode := (.seq (.seq (.region false [
 ⟨some 4, .mv (.cst (.int .i64 0)), none, [], []⟩])
 (.ghost (.kill [4])))
 (.seq (.seq (.region false [
 ⟨some 5, .mv (.cst (.int .i64 0)), none, [], []⟩])
 (.seq (.block 0 (.loop X29.b0))
 (.ghost (.kill [5, 16]))))
 X29.c0))
def X29.k0 : List Item := [.inBlock 0, .code (.ghost (.kill [5, 16])), .code X29.c0]
def X29 : AFunc := ⟨36, [.tmp 4], X29.main, false⟩
def X60.main : ACode := (.seq (.region false [
 ⟨some 2, .alloc [(.int .i64 0), (.int .i64 0), (.str ⟨#[]⟩)], none, [], []⟩])
 (.seq (.seq (.seq (.region false [
 ⟨some 3, .mv (.tmp 0), none, [], []⟩])
 (.ghost (.kill [0])))
 (.cond (.tmp 3) (.seq (.region false [
   ⟨some 4, .build [(.int .i64 0), (.int .i64 0), (.str ⟨#[]⟩)] [(0, 1, (.cst (.int .i64 1))), (1, 1, (.cst (.int .i64 1)))], none, [], []⟩,
   ⟨none, .store 3 (.tmp 2) (.tmp 4), none, [], []⟩])
  .ret)
 .skip))
 (.seq (.region false [
 ⟨some 5, .build [(.int .i64 0), (.int .i64 0), (.str ⟨#[]⟩)] [(0, 1, (.cst (.int .i64 1)))], none, [], []⟩,
 ⟨none, .store 3 (.tmp 2) (.tmp 5), none, [], []⟩])
 .ret)))
def X60 : AFunc := ⟨6, [.cell 2 true 3], X60.main, false⟩
def X54.main : ACode := (.seq (.seq (.region false [
 ⟨some 5, .box 2 (.tmp 2), none, [], []⟩,
 ⟨some 6, .mv (.cst (.bool false)), none, [], []⟩])
 (.ghost (.kill [2, 6])))
 (.seq (.region false [
 ⟨some 7, .mv (.cst (.clo (.func i_X34) [] [])), none, [], []⟩])
 (.seq (.region false [
 ⟨some 8, .mv (.tmp 7), none, [], []⟩,
 ⟨some 9, .mv (.tmp 0), none, [], []⟩,
 ⟨some 10, .iaddrA 2 1 (.tmp 5) (.cst (.int .i64 0)), none, [], []⟩,
 ⟨some 11, .load false 1 (.tmp 10), none, [], []⟩,
 ⟨some 12, .callv true (.tmp 8) [(.tmp 9), (.tmp 11)], none, [], []⟩,
 ⟨some 13, .mv (.tmp 12), none, [], []⟩,
 ⟨some 14, .mv (.tmp 7), (some ((some 13), true)), [], []⟩,
 ⟨some 15, .mv (.tmp 1), (some ((some 13), true)), [], []⟩,
 ⟨some 16, .iaddrA 2 1 (.tmp 5) (.cst (.int .i64 1)), (some ((some 13), true)), [], []⟩,
 ⟨some 17, .load false 1 (.tmp 16), (some ((some 13), true)), [], []⟩,
 ⟨some 18, .callv true (.tmp 14) [(.tmp 15), (.tmp 17)], (some ((some 13), true)), [], []⟩,
 ⟨some 19, .pick (.tmp 13) (.tmp 18) (.cst (.bool false)), none, [], []⟩,
 ⟨some 6, .mv (.tmp 19), none, [], []⟩])
 .ret)))
def X54 : AFunc := ⟨20, [.tmp 6], X54.main, false⟩
def X24.c0 : ACode := (.seq (.seq (.seq (.region false [
 ⟨some 49, .load false 1 (.tmp 8), none, [], []⟩,
 ⟨none, .store 1 (.tmp 6) (.tmp 49), none, [], []⟩,
 ⟨none, .store 1 (.tmp 7) (.cst (.int .i64 0)), none, [], []⟩])
 (.ghost (.inner 6)))
 (.ghost (.kill [8, 49])))
 .ret)
def X24.c1 : ACode := (.ghost (.kill [1, 2, 13, 14, 15, 16]))
def X24.c2 : ACode := (.seq (.region false [
 ⟨some 48, .bin .add (.tmp 15) (.cst (.int .i64 1)), none, [], []⟩,
 ⟨some 15, .mv (.tmp 48), none, [], []⟩])
 (.ghost (.kill [48])))
def X24.c3 : ACode := (.seq (.seq (.region false [
 ⟨some 32, .load false 1 (.tmp 11), none, [], []⟩,
 ⟨some 33, .un .not (.tmp 32), none, [], []⟩,
 ⟨some 34, .mv (.tmp 33), none, [], []⟩,
 ⟨some 35, .mv (.tmp 2), (some ((some 34), true)), [], []⟩,
 ⟨some 36, .bin .geq (.tmp 35) (.cst (.int .i64 0)), (some ((some 34), true)), [], []⟩,
 ⟨some 37, .pick (.tmp 34) (.tmp 36) (.cst (.bool false)), none, [], []⟩])
 (.ghost (.kill [11, 32, 33, 34, 35, 36])))
 (.seq (.cond (.tmp 37) (.seq (.seq (.seq (.region false [
   ⟨some 38, .load false 1 (.tmp 8), none, [], []⟩,
   ⟨some 39, .len .sl (.tmp 38), none, [], []⟩,
   ⟨some 40, .bin .eql (.tmp 39) (.cst (.int .i64 4096)), none, [], []⟩])
  (.ghost (.kill [37, 38, 39])))
  (.cond (.tmp 40) (.seq (.region false [
    ⟨none, .store 1 (.tmp 6) (.cst .nils), none, [], []⟩,
    ⟨none, .store 1 (.tmp 7) (.cst (.int .i64 2)), none, [], []⟩])
   .ret)
  .skip))
  (.seq (.region true [
   ⟨some 41, .load false 1 (.tmp 8), none, [], [8]⟩,
   ⟨some 42, .load false 1 (.tmp 10), none, [], [10]⟩,
   ⟨some 43, .mv (.tmp 2), none, [], [2]⟩,
   ⟨some 44, .mkslF 3 32 [(.int .i64 0), (.int .i64 0), (.str ⟨#[]⟩)] (.tmp 43) (.tmp 43), none, [2, 2], [43, 43]⟩,
   ⟨some 45, .call true i_X44 [(.tmp 42), (.tmp 44)], none, [1, 3], [42, 44]⟩,
   ⟨some 46, .bslice 1 1 [.nils] [(0, (.tmp 45))], none, [4], [45]⟩,
   ⟨some 47, .append 1 24 (.tmp 41) (.tmp 46), none, [0, 5, 4], [41, 46]⟩,
   ⟨none, .store 1 (.tmp 8) (.tmp 47), none, [6, 6, 0, 1, 2, 3, 4, 5, 6], [8, 47]⟩])
  (.ghost (.kill [10, 40, 41, 42, 43, 44, 45, 46, 47]))))
 .skip)
 (.ghost (.kill [10, 37]))))
def X24.y0 : ACode := (.seq (.region false [
 ⟨some 12, .mv (.tmp 22), none, [], []⟩])
 (.trunc (.block 3 (.seq (.seq (.region false [
 ⟨none, .store 1 (.tmp 11) (.cst (.bool true)), none, [], []⟩])
 (.ghost (.kill [1, 2, 11, 13, 14, 15, 21, 22])))
 (.seq (.seq (.seq (.region false [
 ⟨some 23, .load false 1 (.tmp 8), none, [], []⟩,
 ⟨some 24, .len .sl (.tmp 23), none, [], []⟩,
 ⟨some 25, .bin .eql (.tmp 24) (.cst (.int .i64 4096)), none, [], []⟩])
 (.ghost (.kill [23, 24])))
 (.cond (.tmp 25) (.seq (.region false [
   ⟨none, .store 1 (.tmp 6) (.cst .nils), none, [], []⟩,
   ⟨none, .store 1 (.tmp 7) (.cst (.int .i64 2)), none, [], []⟩])
  .ret)
 .skip))
 (.seq (.region true [
 ⟨some 26, .load false 1 (.tmp 8), none, [], [8]⟩,
 ⟨some 27, .load false 1 (.tmp 10), none, [], [10]⟩,
 ⟨some 28, .mv (.tmp 12), none, [], [12]⟩,
 ⟨some 29, .call true i_X44 [(.tmp 27), (.tmp 28)], none, [1, 2], [27, 28]⟩,
 ⟨some 30, .bslice 1 1 [.nils] [(0, (.tmp 29))], none, [3], [29]⟩,
 ⟨some 31, .append 1 24 (.tmp 26) (.tmp 30), none, [0, 4, 3], [26, 30]⟩,
 ⟨none, .store 1 (.tmp 8) (.tmp 31), none, [5, 5, 0, 1, 2, 3, 4, 5], [8, 31]⟩])
 (.ghost (.kill [6, 7, 8, 10, 12, 25, 26, 27, 28, 29, 30, 31]))))))))
def X24.b0 : ACode := (.seq (.region false [
 ⟨some 16, .bin .lss (.tmp 15) (.tmp 14), none, [], []⟩])
 (.seq (.cond (.tmp 16) .skip
 (.exit 0))
 (.seq (.trunc (.block 1 (.seq (.seq (.region false [
 ⟨some 17, .iaddr 1 (.tmp 13) (.tmp 15), none, [], []⟩,
 ⟨some 18, .load false 1 (.tmp 17), none, [], []⟩,
 ⟨some 10, .alloc [.nils], none, [], []⟩,
 ⟨none, .store 1 (.tmp 10) (.tmp 18), none, [], []⟩])
 (.ghost (.kill [16, 17, 18])))
 (.seq (.region false [
 ⟨some 11, .alloc [(.bool false)], none, [], []⟩,
 ⟨none, .store 1 (.tmp 11) (.cst (.bool false)), none, [], []⟩])
 (.seq (.seq (.seq (.region false [
 ⟨some 19, .mv (.tmp 1), none, [], []⟩,
 ⟨some 20, .load false 1 (.tmp 10), none, [], []⟩,
 ⟨some 21, .callv false (.tmp 19) [(.tmp 20)], none, [], []⟩])
 (.ghost (.kill [19, 20])))
 (.block 2 (.seq (.rangeF (.tmp 21) [22] X24.y0)
 (.ghost (.kill [21])))))
 X24.c3)))))
 X24.c2)))
def X24.main : ACode := (.seq (.region false [
 ⟨some 6, .alloc [.nils], none, [], []⟩,
 ⟨some 7, .alloc [(.int .i64 0)], none, [], []⟩])
 (.seq (.region false [
 ⟨some 8, .allocn [.nils] 0 1, none, [], []⟩])
 (.seq (.seq (.seq (.region false [
 ⟨some 13, .mv (.tmp 0), none, [], []⟩,
 ⟨some 14, .len .sl (.tmp 13), none, [], []⟩,
 ⟨some 15, .mv (.cst (.int .i64 0)), none, [], []⟩])
 (.ghost (.kill [0])))
 (.seq (.block 0 (.loop X24.b0))
 X24.c1))
 X24.c0)))
def X24.k0 : List Item := [.inBlock 0, .code X24.c1, .code X24.c0]
def X24 : AFunc := ⟨50, [.cell 6 false 1, .cell 7 false 1], X24.main, false⟩
def X51.main : ACode := (.seq (.seq (.region false [
 ⟨some 2, .box 1 (.tmp 0), none, [], []⟩,
 ⟨some 3, .box 2 (.tmp 1), none, [], []⟩,
 ⟨some 4, .mv (.cst .nilf), none, [], []⟩])
 (.ghost (.kill [0, 1, 4])))
 (.seq (.region false [
 ⟨some 5, .mkfn (.func i_X33) [] [(.tmp 2), (.tmp 3)], none, [], []⟩,
 ⟨some 4, .mv (.tmp 5), none, [], []⟩])
 .ret))
def X51 : AFunc := ⟨6, [.tmp 4], X51.main, false⟩
def X67.c0 : ACode := (.seq (.region false [
 ⟨some 19, .mv (.tmp 1), none, [], []⟩,
 ⟨some 20, .bin .geq (.tmp 19) (.cst (.int .i64 0)), none, [], []⟩,
 ⟨some 4, .mv (.tmp 20), none, [], []⟩])
 .ret)
def X67.b0 : ACode := (.seq (.seq (.seq (.region false [
 ⟨some 6, .mv (.tmp 5), none, [], []⟩,
 ⟨some 7, .mv (.tmp 0), none, [], []⟩,
 ⟨some 8, .len .sl (.tmp 7), none, [], []⟩,
 ⟨some 9, .bin .lss (.tmp 6) (.tmp 8), none, [], []⟩])
 (.ghost (.kill [6, 7, 8])))
 (.cond (.tmp 9) .skip
 (.exit 0)))
 (.seq (.seq (.block 1 (.seq (.seq (.region false [
 ⟨some 12, .mv (.tmp 1), none, [], []⟩,
 ⟨some 13, .mv (.tmp 0), none, [], []⟩,
 ⟨some 14, .mv (.tmp 5), none, [], []⟩,
 ⟨some 15, .iaddr 1 (.tmp 13) (.tmp 14), none, [], []⟩,
 ⟨some 16, .load false 1 (.tmp 15), none, [], []⟩,
 ⟨some 17, .len .sl (.tmp 16), none, [], []⟩,
 ⟨some 18, .bin .geq (.tmp 12) (.tmp 17), none, [], []⟩])
 (.ghost (.kill [9, 12, 13, 14, 15, 16, 17])))
 (.cond (.tmp 18) (.seq (.region false [
   ⟨some 4, .mv (.cst (.bool false)), none, [], []⟩])
  .ret)
 .skip)))
 (.ghost (.kill [18])))
 (.seq (.region false [
 ⟨some 10, .mv (.tmp 5), none, [], []⟩,
 ⟨some 11, .bin .add (.tmp 10) (.cst (.int .i64 1)), none, [], []⟩,
 ⟨some 5, .mv (.tmp 11), none, [], []⟩])
 (.ghost (.kill [10, 11])))))
def X67.main : ACode := (.seq (.seq (.region false [
 ⟨some 4, .mv (.cst (.bool false)), none, [], []⟩])
 (.ghost (.kill [4])))
 (.seq (.seq (.region false [
 ⟨some 5, .mv (.cst (.int .i64 0)), none, [], []⟩])
 (.seq (.block 0 (.loop X67.b0))
 (.ghost (.kill [0, 5, 9]))))
 X67.c0))
def X67.k0 : List Item := [.inBlock 0, .code (.ghost (.kill [0, 5, 9])), .code X67.c0]
def X67 : AFunc := ⟨21, [.tmp 4], X67.main, false⟩
def X40.c0 : ACode := (.seq (.region false [
 ⟨some 33, .mkfn (.func i_X17) [] [(.tmp 5), (.tmp 3)], none, [], []⟩,
 ⟨some 4, .mv (.tmp 33), none, [], []⟩])
 .ret)
def X40.c1 : ACode := (.ghost (.kill [10, 11, 12, 13]))
def X40.c2 : ACode := (.seq (.region false [
 ⟨some 32, .bin .add (.tmp 12) (.cst (.int .i64 1)), none, [], []⟩,
 ⟨some 12, .mv (.tmp 32), none, [], []⟩])
 (.ghost (.kill [32])))
def X40.b0 : ACode := (.seq (.region false [
 ⟨some 13, .bin .lss (.tmp 12) (.tmp 11), none, [], []⟩])
 (.seq (.cond (.tmp 13) .skip
 (.exit 0))
 (.seq (.block 1 (.seq (.seq (.region false [
 ⟨some 14, .iaddr 1 (.tmp 10) (.tmp 12), none, [], []⟩,
 ⟨some 15, .load false 1 (.tmp 14), none, [], []⟩,
 ⟨some 7, .mv (.tmp 15), none, [], []⟩])
 (.ghost (.kill [13, 14, 15])))
 (.seq (.seq (.region false [
 ⟨some 16, .mv (.tmp 7), none, [], []⟩,
 ⟨some 17, .iaddrA 2 1 (.tmp 3) (.cst (.int .i64 1)), none, [], []⟩,
 ⟨some 18, .load false 1 (.tmp 17), none, [], []⟩,
 ⟨some 19, .iaddr 3 (.tmp 16) (.tmp 18), none, [], []⟩,
 ⟨some 20, .load true 3 (.tmp 19), none, [], []⟩,
 ⟨some 8, .alloc [(.int .i64 0), (.int .i64 0), (.str ⟨#[]⟩)], none, [], []⟩,
 ⟨none, .store 3 (.tmp 8) (.tmp 20), none, [], []⟩])
 (.ghost (.kill [16, 17, 18, 19, 20])))
 (.seq (.seq (.region false [
 ⟨some 21, .faddr 0 (.tmp 8), none, [], []⟩,
 ⟨some 22, .load false 1 (.tmp 21), none, [], []⟩,
 ⟨some 23, .bin .neq (.tmp 22) (.cst (.int .i64 0)), none, [], []⟩])
 (.ghost (.kill [21, 22])))
 (.seq (.cond (.tmp 23) (.seq (.region false [
   ⟨some 24, .load false 1 (.tmp 5), none, [], []⟩,
   ⟨some 25, .load true 3 (.tmp 8), none, [], []⟩,
   ⟨some 27, .mv (.tmp 7), none, [], []⟩,
   ⟨some 28, .bslice 1 1 [.nils] [(0, (.tmp 27))], none, [], []⟩,
   ⟨some 29, .mapent (.row [(0, 1, false, (.int .i64)), (1, 1, false, (.int .i64)), (2, 1, false, .str)]) .nils (.tmp 24) (.tmp 25), none, [], []⟩,
   ⟨some 26, .extr (.tmp 29) 0, none, [], []⟩,
   ⟨some 30, .append 1 24 (.tmp 26) (.tmp 28), none, [], []⟩,
   ⟨some 31, .extr (.tmp 29) 1, none, [], []⟩,
   ⟨none, .entst (.tmp 24) (.tmp 31) (.tmp 30), none, [], []⟩])
  (.ghost (.kill [7, 8, 23, 24, 25, 26, 27, 28, 29, 30, 31])))
 .skip)
 (.ghost (.kill [7, 8, 23])))))))
 X40.c2)))
def X40.main : ACode := (.seq (.seq (.region false [
 ⟨some 3, .box 2 (.tmp 1), none, [], []⟩,
 ⟨some 4, .mv (.cst .nilf), none, [], []⟩])
 (.ghost (.kill [1, 4])))
 (.seq (.seq (.region false [
 ⟨some 9, .mkmap, none, [], []⟩,
 ⟨some 5, .alloc [.nilm], none, [], []⟩,
 ⟨none, .store 1 (.tmp 5) (.tmp 9), none, [], []⟩])
 (.ghost (.kill [9])))
 (.seq (.seq (.seq (.region false [
 ⟨some 10, .mv (.tmp 0), none, [], []⟩,
 ⟨some 11, .len .sl (.tmp 10), none, [], []⟩,
 ⟨some 12, .mv (.cst (.int .i64 0)), none, [], []⟩])
 (.ghost (.kill [0])))
 (.seq (.block 0 (.loop X40.b0))
 X40.c1))
 X40.c0)))
def X40.k0 : List Item := [.inBlock 0, .code X40.c1, .code X40.c0]
def X40 : AFunc := ⟨34, [.tmp 4], X40.main, false⟩
def X18.main : ACode := (.seq (.seq (.region false [
 ⟨some 1, .box 1 (.tmp 0), none, [], []⟩,
 ⟨some 2, .mv (.cst .nilf), none, [], []⟩])
 (.ghost (.kill [0, 2])))
 (.seq (.region false [
 ⟨some 3, .mkfn (.func i_X13) [] [(.tmp 1)], none, [], []⟩,
 ⟨some 2, .mv (.tmp 3), none, [], []⟩])
 .ret))
def X18 : AFunc := ⟨4, [.tmp 2], X18.main, false⟩
def X13.main : ACode := (.seq (.seq (.region false [
 ⟨some 5, .mv (.cst (.int .i64 0)), none, [], []⟩])
 (.ghost (.kill [5])))
 (.seq (.region true [
 ⟨some 6, .mv (.tmp 0), none, [], [0]⟩,
 ⟨some 7, .load false 1 (.tmp 2), none, [], [2]⟩,
 ⟨some 8, .iaddr 3 (.tmp 6) (.tmp 7), none, [0, 1], [6, 7]⟩,
 ⟨some 9, .load true 3 (.tmp 8), none, [2], [8]⟩,
 ⟨some 10, .mv (.tmp 1), none, [], [1]⟩,
 ⟨some 11, .load false 1 (.tmp 2), none, [], [2]⟩,
 ⟨some 12, .iaddr 3 (.tmp 10) (.tmp 11), none, [4, 5], [10, 11]⟩,
 ⟨some 13, .load true 3 (.tmp 12), none, [6], [12]⟩,
 ⟨some 14, .call true i_X46 [(.tmp 9), (.tmp 13)], none, [3, 7], [9, 13]⟩,
 ⟨some 5, .mv (.tmp 14), none, [8, 8, 0, 1, 2, 3, 4, 5, 6, 7, 8], [14]⟩])
 .ret))
def X13 : AFunc := ⟨15, [.tmp 5], X13.main, false⟩
def X46.main : ACode := (.seq (.seq (.region false [
 ⟨some 2, .box 3 (.tmp 0), none, [], []⟩,
 ⟨some 3, .box 3 (.tmp 1), none, [], []⟩,
 ⟨some 4, .mv (.cst (.int .i64 0)), none, [], []⟩])
 (.ghost (.kill [0, 1, 4])))
 (.seq (.region true [
 ⟨some 5, .faddr 0 (.tmp 2), none, [], [2]⟩,
 ⟨some 6, .load false 1 (.tmp 5), none, [0], [5]⟩,
 ⟨some 7, .faddr 0 (.tmp 3), none, [], [3]⟩,
 ⟨some 8, .load false 1 (.tmp 7), none, [2], [7]⟩,
 ⟨some 9, .call true i_X12 [(.tmp 6), (.tmp 8)], none, [1, 3], [6, 8]⟩,
 ⟨some 10, .faddr 1 (.tmp 2), none, [], [2]⟩,
 ⟨some 11, .load false 1 (.tmp 10), none, [5], [10]⟩,
 ⟨some 12, .faddr 1 (.tmp 3), none, [], [3]⟩,
 ⟨some 13, .load false 1 (.tmp 12), none, [7], [12]⟩,
 ⟨some 14, .call true i_X12 [(.tmp 11), (.tmp 13)], none, [6, 8, 4], [11, 13]⟩,
 ⟨some 15, .faddr 2 (.tmp 2), none, [], [2]⟩,
 ⟨some 16, .load false 1 (.tmp 15), none, [10], [15]⟩,
 ⟨some 17, .faddr 2 (.tmp 3), none, [], [3]⟩,
 ⟨some 18, .load false 1 (.tmp 17), none, [12], [17]⟩,
 ⟨some 19, .call true i_X8 [(.tmp 16), (.tmp 18)], none, [11, 13, 9], [16, 18]⟩,
 ⟨some 20, .flist 1 3 [(.int .i64 0)] [(0, (.tmp 9)), (1, (.tmp 14)), (2, (.tmp 19))], none, [4, 9, 14], [9, 14, 19]⟩,
 ⟨some 21, .call true i_X11 [(.tmp 20)], none, [15, 14], [20]⟩,
 ⟨some 4, .mv (.tmp 21), none, [16, 16, 0, 1, 2, 3, 4, 5, 6, 7, 8, 9, 10, 11, 12, 13, 14, 15, 16], [21]⟩])
 .ret))
def X46 : AFunc := ⟨22, [.tmp 4], X46.main, false⟩
def X1.c0 : ACode := (.seq (.region false [
 ⟨some 4, .mv (.cst (.bool true)), none, [], []⟩])
 .ret)
def X1.c1 : ACode := (.ghost (.kill [0, 1, 5, 10]))
def X1.b0 : ACode := (.seq (.seq (.seq (.region false [
 ⟨some 9, .mv (.tmp 5), none, [], []⟩,
 ⟨some 10, .bin .gtr (.tmp 9) (.cst (.int .i64 0)), none, [], []⟩])
 (.ghost (.kill [9])))
 (.cond (.tmp 10) .skip
 (.exit 0)))
 (.seq (.seq (.block 1 (.seq (.seq (.region true [
 ⟨some 13, .mv (.tmp 1), none, [], [1]⟩,
 ⟨some 14, .mv (.tmp 0), none, [], [0]⟩,
 ⟨some 15, .mv (.tmp 5), none, [], [5]⟩,
 ⟨some 16, .iaddr 1 (.tmp 14) (.tmp 15), none, [1, 2], [14, 15]⟩,
 ⟨some 17, .load false 1 (.tmp 16), none, [3], [16]⟩,
 ⟨some 18, .mv (.tmp 0), none, [], [0]⟩,
 ⟨some 19, .mv (.tmp 5), none, [], [5]⟩,
 ⟨some 20, .bin .sub (.tmp 19) (.cst (.int .i64 1)), none, [6], [19]⟩,
 ⟨some 21, .iaddr 1 (.tmp 18) (.tmp 20), none, [5, 7], [18, 20]⟩,
 ⟨some 22, .load false 1 (.tmp 21), none, [8], [21]⟩,
 ⟨some 23, .callv true (.tmp 13) [(.tmp 17), (.tmp 22)], none, [0, 4, 9], [13, 17, 22]⟩,
 ⟨some 24, .bin .lss (.tmp 23) (.cst (.int .i64 0)), none, [10], [23]⟩])
 (.ghost (.kill [10, 13, 14, 15, 16, 17, 18, 19, 20, 21, 22, 23])))
 (.cond (.tmp 24) (.seq (.region false [
   ⟨some 4, .mv (.cst (.bool false)), none, [], []⟩])
  .ret)
 .skip)))
 (.ghost (.kill [24])))
 (.seq (.region false [
 ⟨some 11, .mv (.tmp 5), none, [], []⟩,
 ⟨some 12, .bin .sub (.tmp 11) (.cst (.int .i64 1)), none, [], []⟩,
 ⟨some 5, .mv (.tmp 12), none, [], []⟩])
 (.ghost (.kill [11, 12])))))
def X1.main : ACode := (.seq (.seq (.region false [
 ⟨some 4, .mv (.cst (.bool false)), none, [], []⟩])
 (.ghost (.kill [4])))
 (.seq (.seq (.seq (.region false [
 ⟨some 6, .mv (.tmp 0), none, [], []⟩,
 ⟨some 7, .len .sl (.tmp 6), none, [], []⟩,
 ⟨some 8, .bin .sub (.tmp 7) (.cst (.int .i64 1)), none, [], []⟩,
 ⟨some 5, .mv (.tmp 8), none, [], []⟩])
 (.ghost (.kill [6, 7, 8])))
 (.seq (.block 0 (.loop X1.b0))
 X1.c1))
 X1.c0))
def X1.k0 : List Item := [.inBlock 0, .code X1.c1, .code X1.c0]
def X1 : AFunc := ⟨25, [.tmp 4], X1.main, false⟩
def X43.main : ACode := (.seq (.seq (.region false [
 ⟨some 2, .box 1 (.tmp 0), none, [], []⟩,
 ⟨some 3, .box 2 (.tmp 1), none, [], []⟩,
 ⟨some 4, .mv (.cst .nilf), none, [], []⟩])
 (.ghost (.kill [0, 1, 4])))
 (.seq (.region false [
 ⟨some 5, .alloc [(.int .i64 0)], none, [], []⟩,
 ⟨none, .store 1 (.tmp 5) (.cst (.int .i64 0)), none, [], []⟩])
 (.seq (.region false [
 ⟨some 6, .mkfn (.func i_X26) [] [(.tmp 3), (.tmp 5), (.tmp 2)], none, [], []⟩,
 ⟨some 4, .mv (.tmp 6), none, [], []⟩])
 .ret)))
def X43 : AFunc := ⟨7, [.tmp 4], X43.main, false⟩
def X50.c0 : ACode := (.seq (.region false [
 ⟨some 41, .mv (.tmp 11), none, [], []⟩,
 ⟨some 8, .mv (.tmp 41), none, [], []⟩,
 ⟨some 9, .mv (.cst (.int .i64 0)), none, [], []⟩])
 .ret)
def X50.c1 : ACode := (.ghost (.kill [3, 10, 23, 24, 25, 26]))
def X50.c2 : ACode := (.seq (.region false [
 ⟨some 40, .bin .add (.tmp 25) (.cst (.int .i64 1)), none, [], []⟩,
 ⟨some 25, .mv (.tmp 40), none, [], []⟩])
 (.ghost (.kill [40])))
def X50.c3 : ACode := (.seq (.seq (.region false [
 ⟨some 33, .load false 1 (.tmp 14), none, [], []⟩,
 ⟨some 34, .mv (.tmp 3), none, [], []⟩,
 ⟨some 35, .eqs false .bool (.tmp 33) (.tmp 34), none, [], []⟩])
 (.ghost (.kill [14, 33, 34])))
 (.seq (.cond (.tmp 35) (.seq (.region false [
   ⟨some 36, .mv (.tmp 11), none, [], []⟩,
   ⟨some 37, .mv (.tmp 13), none, [], []⟩,
   ⟨some 38, .bslice 1 1 [.nils] [(0, (.tmp 37))], none, [], []⟩,
   ⟨some 39, .append 1 24 (.tmp 36) (.tmp 38), none, [], []⟩,
   ⟨some 11, .mv (.tmp 39), none, [], []⟩])
  (.ghost (.kill [13, 35, 36, 37, 38, 39])))
 .skip)
 (.ghost (.kill [13, 35]))))
def X50.y0 : ACode := (.seq (.region false [])
 (.block 3 (.seq (.seq (.region false [
 ⟨none, .store 1 (.tmp 14) (.cst (.bool true)), none, [], []⟩])
 (.ghost (.kill [3, 10, 11, 13, 14, 23, 24, 25, 31, 32])))
 (.exit 2))))
def X50.b0 : ACode := (.seq (.region false [
 ⟨some 26, .bin .lss (.tmp 25) (.tmp 24), none, [], []⟩])
 (.seq (.cond (.tmp 26) .skip
 (.exit 0))
 (.seq (.trunc (.block 1 (.seq (.seq (.region false [
 ⟨some 27, .iaddr 1 (.tmp 23) (.tmp 25), none, [], []⟩,
 ⟨some 28, .load false 1 (.tmp 27), none, [], []⟩,
 ⟨some 13, .mv (.tmp 28), none, [], []⟩])
 (.ghost (.kill [26, 27, 28])))
 (.seq (.region false [
 ⟨some 14, .alloc [(.bool false)], none, [], []⟩,
 ⟨none, .store 1 (.tmp 14) (.cst (.bool false)), none, [], []⟩])
 (.seq (.seq (.seq (.region false [
 ⟨some 29, .mv (.tmp 10), none, [], []⟩,
 ⟨some 30, .mv (.tmp 13), none, [], []⟩,
 ⟨some 31, .callv false (.tmp 29) [(.tmp 30)], none, [], []⟩])
 (.ghost (.kill [29, 30])))
 (.seq (.block 2 (.seq (.rangeF (.tmp 31) [32] X50.y0)
 (.ghost (.kill [31]))))
 (.ghost (.kill [31]))))
 X50.c3)))))
 X50.c2)))
def X50.main : ACode := (.seq (.seq (.region false [
 ⟨some 6, .box 2 (.tmp 2), none, [], []⟩,
 ⟨some 8, .mv (.cst .nils), none, [], []⟩,
 ⟨some 9, .mv (.cst (.int .i64 0)), none, [], []⟩])
 (.ghost (.kill [2, 8, 9])))
 (.seq (.seq (.seq (.region false [
 ⟨some 15, .mv (.tmp 0), none, [], []⟩,
 ⟨some 16, .mv (.tmp 1), none, [], []⟩,
 ⟨some 17, .load true 2 (.tmp 6), none, [], []⟩,
 ⟨some 18, .call true i_X54 [(.tmp 15), (.tmp 16), (.tmp 17)], none, [], []⟩,
 ⟨some 19, .un .not (.tmp 18), none, [], []⟩])
 (.ghost (.kill [15, 16, 17, 18])))
 (.cond (.tmp 19) (.seq (.region false [
   ⟨some 8, .mv (.cst .nils), none, [], []⟩,
   ⟨some 9, .mv (.cst (.int .i64 1)), none, [], []⟩])
  .ret)
 .skip))
 (.seq (.seq (.region false [
 ⟨some 20, .mv (.tmp 1), none, [], []⟩,
 ⟨some 21, .load true 2 (.tmp 6), none, [], []⟩,
 ⟨some 22, .call true i_X40 [(.tmp 20), (.tmp 21)], none, [], []⟩,
 ⟨some 10, .mv (.tmp 22), none, [], []⟩])
 (.ghost (.kill [1, 6, 19, 20, 21, 22])))
 (.seq (.seq (.region false [
 ⟨some 11, .mv (.cst .nils), none, [], []⟩])
 (.ghost (.nilref 11 1)))
 (.seq (.seq (.seq (.region false [
 ⟨some 23, .mv (.tmp 0), none, [], []⟩,
 ⟨some 24, .len .sl (.tmp 23), none, [], []⟩,
 ⟨some 25, .mv (.cst (.int .i64 0)), none, [], []⟩])
 (.ghost (.kill [0])))
 (.seq (.block 0 (.loop X50.b0))
 X50.c1))
 X50.c0)))))
def X50.k0 : List Item := [.inBlock 0, .code X50.c1, .code X50.c0]
def X50 : AFunc := ⟨42, [.tmp 8, .tmp 9], X50.main, false⟩
def X28.c0 : ACode := (.seq (.region false [
 ⟨some 6, .mv (.cst (.bool false)), none, [], []⟩])
 .ret)
def X28.c1 : ACode := (.ghost (.kill [0, 1, 5, 7, 11]))
def X28.b0 : ACode := (.seq (.seq (.seq (.region false [
 ⟨some 8, .mv (.tmp 7), none, [], []⟩,
 ⟨some 9, .mv (.tmp 1), none, [], []⟩,
 ⟨some 10, .len .sl (.tmp 9), none, [], []⟩,
 ⟨some 11, .bin .lss (.tmp 8) (.tmp 10), none, [], []⟩])
 (.ghost (.kill [8, 9, 10])))
 (.cond (.tmp 11) .skip
 (.exit 0)))
 (.seq (.seq (.block 1 (.seq (.seq (.region true [
 ⟨some 14, .mv (.tmp 0), none, [], [0]⟩,
 ⟨some 15, .mv (.tmp 1), none, [], [1]⟩,
 ⟨some 16, .mv (.tmp 7), none, [], [7]⟩,
 ⟨some 17, .iaddr 1 (.tmp 15) (.tmp 16), none, [1, 2], [15, 16]⟩,
 ⟨some 18, .load false 1 (.tmp 17), none, [3], [17]⟩,
 ⟨some 19, .load true 2 (.tmp 5), none, [], [5]⟩,
 ⟨some 20, .call true i_X22 [(.tmp 14), (.tmp 18), (.tmp 19)], none, [0, 4, 5], [14, 18, 19]⟩])
 (.ghost (.kill [11, 14, 15, 16, 17, 18, 19])))
 (.cond (.tmp 20) (.seq (.region false [
   ⟨some 6, .mv (.cst (.bool true)), none, [], []⟩])
  .ret)
 .skip)))
 (.ghost (.kill [20])))
 (.seq (.region false [
 ⟨some 12, .mv (.tmp 7), none, [], []⟩,
 ⟨some 13, .bin .add (.tmp 12) (.cst (.int .i64 1)), none, [], []⟩,
 ⟨some 7, .mv (.tmp 13), none, [], []⟩])
 (.ghost (.kill [12, 13])))))
def X28.main : ACode := (.seq (.seq (.region false [
 ⟨some 5, .box 2 (.tmp 2), none, [], []⟩,
 ⟨some 6, .mv (.cst (.bool false)), none, [], []⟩])
 (.ghost (.kill [2, 6])))
 (.seq (.seq (.region false [
 ⟨some 7, .mv (.cst (.int .i64 0)), none, [], []⟩])
 (.seq (.block 0 (.loop X28.b0))
 X28.c1))
 X28.c0))
def X28.k0 : List Item := [.inBlock 0, .code X28.c1, .code X28.c0]
def X28 : AFunc := ⟨21, [.tmp 6], X28.main, false⟩
def X57.main : ACode := (.seq (.seq (.region false [
 ⟨some 4, .mv (.cst (.int .i64 0)), none, [], []⟩])
 (.ghost (.kill [4])))
 (.seq (.seq (.seq (.region false [
 ⟨some 5, .mv (.tmp 0), none, [], []⟩,
 ⟨some 6, .mv (.tmp 1), none, [], []⟩,
 ⟨some 7, .bin .lss (.tmp 5) (.tmp 6), none, [], []⟩])
 (.ghost (.kill [5, 6])))
 (.cond (.tmp 7) (.seq (.region false [
   ⟨some 4, .mv (.cst (.int .i64 (-1))), none, [], []⟩])
  .ret)
 .skip))
 (.seq (.seq (.seq (.region false [
 ⟨some 8, .mv (.tmp 0), none, [], []⟩,
 ⟨some 9, .mv (.tmp 1), none, [], []⟩,
 ⟨some 10, .bin .gtr (.tmp 8) (.tmp 9), none, [], []⟩])
 (.ghost (.kill [0, 1, 7, 8, 9])))
 (.cond (.tmp 10) (.seq (.region false [
   ⟨some 4, .mv (.cst (.int .i64 1)), none, [], []⟩])
  .ret)
 .skip))
 (.seq (.region false [
 ⟨some 4, .mv (.cst (.int .i64 0)), none, [], []⟩])
 .ret))))
def X57 : AFunc := ⟨11, [.tmp 4], X57.main, false⟩
def X32.c0 : ACode := (.seq (.region false [
 ⟨some 34, .mv (.tmp 0), none, [], []⟩,
 ⟨some 35, .len .str (.tmp 34), none, [], []⟩,
 ⟨some 36, .mv (.tmp 1), none, [], []⟩,
 ⟨some 37, .len .str (.tmp 36), none, [], []⟩,
 ⟨some 38, .call true i_X57 [(.tmp 35), (.tmp 37)], none, [], []⟩,
 ⟨some 4, .mv (.tmp 38), none, [], []⟩])
 .ret)
def X32.b0 : ACode := (.seq (.seq (.seq (.region false [
 ⟨some 6, .mv (.tmp 5), none, [], []⟩,
 ⟨some 7, .mv (.tmp 0), none, [], []⟩,
 ⟨some 8, .len .str (.tmp 7), none, [], []⟩,
 ⟨some 9, .bin .lss (.tmp 6) (.tmp 8), none, [], []⟩,
 ⟨some 10, .mv (.tmp 9), none, [], []⟩,
 ⟨some 11, .mv (.tmp 5), (some ((some 10), true)), [], []⟩,
 ⟨some 12, .mv (.tmp 1), (some ((some 10), true)), [], []⟩,
 ⟨some 13, .len .str (.tmp 12), (some ((some 10), true)), [], []⟩,
 ⟨some 14, .bin .lss (.tmp 11) (.tmp 13), (some ((some 10), true)), [], []⟩,
 ⟨some 15, .pick (.tmp 10) (.tmp 14) (.cst (.bool false)), none, [], []⟩])
 (.ghost (.kill [6, 7, 8, 9, 10, 11, 12, 13, 14])))
 (.cond (.tmp 15) .skip
 (.exit 0)))
 (.seq (.seq (.block 1 (.seq (.seq (.region true [
 ⟨some 18, .mv (.tmp 0), none, [], [0]⟩,
 ⟨some 19, .mv (.tmp 5), none, [], [5]⟩,
 ⟨some 20, .idxS (.tmp 18) (.tmp 19), none, [0, 1], [18, 19]⟩,
 ⟨some 21, .mv (.tmp 1), none, [], [1]⟩,
 ⟨some 22, .mv (.tmp 5), none, [], [5]⟩,
 ⟨some 23, .idxS (.tmp 21) (.tmp 22), none, [3, 4], [21, 22]⟩,
 ⟨some 24, .bin .neq (.tmp 20) (.tmp 23), none, [2, 5], [20, 23]⟩])
 (.ghost (.kill [15, 18, 19, 20, 21, 22, 23])))
 (.cond (.tmp 24) (.seq (.region true [
   ⟨some 25, .mv (.tmp 0), none, [], [0]⟩,
   ⟨some 26, .mv (.tmp 5), none, [], [5]⟩,
   ⟨some 27, .idxS (.tmp 25) (.tmp 26), none, [0, 1], [25, 26]⟩,
   ⟨some 28, .conv .i64 (.tmp 27), none, [2], [27]⟩,
   ⟨some 29, .mv (.tmp 1), none, [], [1]⟩,
   ⟨some 30, .mv (.tmp 5), none, [], [5]⟩,
   ⟨some 31, .idxS (.tmp 29) (.tmp 30), none, [4, 5], [29, 30]⟩,
   ⟨some 32, .conv .i64 (.tmp 31), none, [6], [31]⟩,
   ⟨some 33, .call true i_X57 [(.tmp 28), (.tmp 32)], none, [3, 7], [28, 32]⟩,
   ⟨some 4, .mv (.tmp 33), none, [8, 8, 0, 1, 2, 3, 4, 5, 6, 7, 8], [33]⟩])
  .ret)
 .skip)))
 (.ghost (.kill [24])))
 (.seq (.region false [
 ⟨some 16, .mv (.tmp 5), none, [], []⟩,
 ⟨some 17, .bin .add (.tmp 16) (.cst (.int .i64 1)), none, [], []⟩,
 ⟨some 5, .mv (.tmp 17), none, [], []⟩])
 (.ghost (.kill [16, 17])))))
def X32.main : ACode := (.seq (.seq (.region false [
 ⟨some 4, .mv (.cst (.int .i64 0)), none, [], []⟩])
 (.ghost (.kill [4])))
 (.seq (.seq (.region false [
 ⟨some 5, .mv (.cst (.int .i64 0)), none, [], []⟩])
 (.seq (.block 0 (.loop X32.b0))
 (.ghost (.kill [5, 15]))))
 X32.c0))
def X32.k0 : List Item := [.inBlock 0, .code (.ghost (.kill [5, 15])), .code X32.c0]
def X32 : AFunc := ⟨39, [.tmp 4], X32.main, false⟩
def X34.main : ACode := (.seq (.seq (.region false [
 ⟨some 3, .box 1 (.tmp 1), none, [], []⟩,
 ⟨some 4, .mv (.cst (.bool false)), none, [], []⟩])
 (.ghost (.kill [1, 4])))
 (.seq (.region false [
 ⟨some 5, .load false 1 (.tmp 3), none, [], []⟩,
 ⟨some 6, .bin .geq (.tmp 5) (.cst (.int .i64 0)), none, [], []⟩,
 ⟨some 7, .mv (.tmp 6), none, [], []⟩,
 ⟨some 8, .mv (.tmp 0), (some ((some 7), true)), [], []⟩,
 ⟨some 9, .mkfn (.func i_X20) [] [(.tmp 3)], (some ((some 7), true)), [], []⟩,
 ⟨some 10, .call true i_X0 [(.tmp 8), (.tmp 9)], (some ((some 7), true)), [], []⟩,
 ⟨some 11, .un .not (.tmp 10), (some ((some 7), true)), [], []⟩,
 ⟨some 12, .pick (.tmp 7) (.tmp 11) (.cst (.bool false)), none, [], []⟩,
 ⟨some 4, .mv (.tmp 12), none, [], []⟩])
 .ret))
def X34 : AFunc := ⟨13, [.tmp 4], X34.main, false⟩
def X0.main : ACode := (.seq (.seq (.region false [
 ⟨some 4, .mv (.cst (.bool false)), none, [], []⟩])
 (.ghost (.kill [4])))
 (.seq (.region false [
 ⟨some 5, .mv (.tmp 0), none, [], []⟩,
 ⟨some 6, .mv (.tmp 1), none, [], []⟩,
 ⟨some 7, .call true i_X3 [(.tmp 5), (.tmp 6)], none, [], []⟩,
 ⟨some 8, .bin .geq (.tmp 7) (.cst (.int .i64 0)), none, [], []⟩,
 ⟨some 4, .mv (.tmp 8), none, [], []⟩])
 .ret))
def X0 : AFunc := ⟨9, [.tmp 4], X0.main, false⟩
def X20.main : ACode := (.seq (.seq (.region false [
 ⟨some 3, .mv (.cst (.bool false)), none, [], []⟩])
 (.ghost (.kill [3])))
 (.seq (.region false [
 ⟨some 4, .load false 1 (.tmp 1), none, [], []⟩,
 ⟨some 5, .mv (.tmp 0), none, [], []⟩,
 ⟨some 6, .len .sl (.tmp 5), none, [], []⟩,
 ⟨some 7, .bin .geq (.tmp 4) (.tmp 6), none, [], []⟩,
 ⟨some 3, .mv (.tmp 7), none, [], []⟩])
 .ret))
def X20 : AFunc := ⟨8, [.tmp 3], X20.main, false⟩
def X44.main : ACode := (.seq (.seq (.region false [
 ⟨some 4, .mv (.cst .nils), none, [], []⟩])
 (.ghost (.kill [4])))
 (.seq (.region false [
 ⟨some 5, .mv (.tmp 0), none, [], []⟩,
 ⟨some 6, .call false i_X4 [(.tmp 5)], none, [], []⟩,
 ⟨some 7, .mv (.tmp 1), none, [], []⟩,
 ⟨some 8, .append 3 32 (.tmp 6) (.tmp 7), none, [], []⟩,
 ⟨some 4, .mv (.tmp 8), none, [], []⟩])
 .ret))
def X44 : AFunc := ⟨9, [.tmp 4], X44.main, false⟩
def X33.main : ACode := (.seq (.seq (.region false [
 ⟨some 3, .box 1 (.tmp 0), none, [], []⟩,
 ⟨some 4, .mv (.cst .nilf), none, [], []⟩])
 (.ghost (.kill [0, 4])))
 (.seq (.region false [
 ⟨some 5, .mkfn (.func i_X15) [] [(.tmp 1), (.tmp 3), (.tmp 2)], none, [], []⟩,
 ⟨some 4, .mv (.tmp 5), none, [], []⟩])
 .ret))
def X33 : AFunc := ⟨6, [.tmp 4], X33.main, false⟩
def X15.c0 : ACode := (.ghost (.kill [0, 7, 8, 9, 10]))
def X15.b0 : ACode := (.seq (.region false [
 ⟨some 10, .bin .lss (.tmp 9) (.tmp 8), none, [], []⟩])
 (.seq (.cond (.tmp 10) .skip
 (.exit 0))
 (.seq (.trunc (.seq (.block 1 (.seq (.seq (.region false [
 ⟨some 11, .iaddr 1 (.tmp 7) (.tmp 9), none, [], []⟩,
 ⟨some 12, .load false 1 (.tmp 11), none, [], []⟩,
 ⟨some 6, .mv (.tmp 12), none, [], []⟩])
 (.ghost (.kill [10, 11, 12])))
 (.seq (.seq (.region true [
 ⟨some 13, .load false 1 (.tmp 2), none, [], [2]⟩,
 ⟨some 14, .iaddrA 2 1 (.tmp 3) (.cst (.int .i64 0)), none, [], [3]⟩,
 ⟨some 15, .load false 1 (.tmp 14), none, [1], [14]⟩,
 ⟨some 16, .iaddr 3 (.tmp 13) (.tmp 15), none, [0, 2], [13, 15]⟩,
 ⟨some 17, .faddr 0 (.tmp 16), none, [3], [16]⟩,
 ⟨some 18, .load false 1 (.tmp 17), none, [4], [17]⟩,
 ⟨some 19, .bin .neq (.tmp 18) (.cst (.int .i64 0)), none, [5], [18]⟩,
 ⟨some 20, .mv (.tmp 19), none, [6], [19]⟩,
 ⟨some 21, .load false 1 (.tmp 2), (some ((some 20), true)), [7], [2]⟩,
 ⟨some 22, .iaddrA 2 1 (.tmp 3) (.cst (.int .i64 0)), (some ((some 20), true)), [7], [3]⟩,
 ⟨some 23, .load false 1 (.tmp 22), (some ((some 20), true)), [9, 7], [22]⟩,
 ⟨some 24, .iaddr 3 (.tmp 21) (.tmp 23), (some ((some 20), true)), [8, 10, 7], [21, 23]⟩,
 ⟨some 25, .load true 3 (.tmp 24), (some ((some 20), true)), [11, 7], [24]⟩,
 ⟨some 26, .mv (.tmp 6), (some ((some 20), true)), [7], [6]⟩,
 ⟨some 27, .iaddrA 2 1 (.tmp 3) (.cst (.int .i64 1)), (some ((some 20), true)), [7], [3]⟩,
 ⟨some 28, .load false 1 (.tmp 27), (some ((some 20), true)), [14, 7], [27]⟩,
 ⟨some 29, .iaddr 3 (.tmp 26) (.tmp 28), (some ((some 20), true)), [13, 15, 7], [26, 28]⟩,
 ⟨some 30, .load true 3 (.tmp 29), (some ((some 20), true)), [16, 7], [29]⟩,
 ⟨some 31, .eqs false (.row [(0, 1, false, (.int .i64)), (1, 1, false, (.int .i64)), (2, 1, false, .str)]) (.tmp 25) (.tmp 30), (some ((some 20), true)), [12, 17, 7], [25, 30]⟩,
 ⟨some 32, .pick (.tmp 20) (.tmp 31) (.cst (.bool false)), none, [7, 18], [20, 31]⟩,
 ⟨some 33, .mv (.tmp 32), none, [19, 7], [32]⟩,
 ⟨some 34, .mv (.tmp 0), (some ((some 33), true)), [20], [0]⟩,
 ⟨some 35, .mv (.tmp 6), (some ((some 33), true)), [20], [6]⟩,
 ⟨some 36, .callv false (.tmp 34) [(.tmp 35)], (some ((some 33), true)), [21, 22, 20, 20], [34, 35]⟩,
 ⟨some 37, .un .not (.tmp 36), (some ((some 33), true)), [23, 20], [36]⟩,
 ⟨some 38, .pick (.tmp 33) (.tmp 37) (.cst (.bool false)), none, [20, 24], [33, 37]⟩])
 (.ghost (.kill [6, 13, 14, 15, 16, 17, 18, 19, 20, 21, 22, 23, 24, 25, 26, 27, 28, 29, 30, 31, 32, 33, 34, 35, 36, 37])))
 (.cond (.tmp 38) .ret
 .skip))))
 (.ghost (.kill [38]))))
 (.seq (.region false [
 ⟨some 39, .bin .add (.tmp 9) (.cst (.int .i64 1)), none, [], []⟩,
 ⟨some 9, .mv (.tmp 39), none, [], []⟩])
 (.ghost (.kill [39]))))))
def X15.main : ACode := (.seq (.region false [
 ⟨some 7, .load false 1 (.tmp 1), none, [], []⟩,
 ⟨some 8, .len .sl (.tmp 7), none, [], []⟩,
 ⟨some 9, .mv (.cst (.int .i64 0)), none, [], []⟩])
 (.seq (.block 0 (.loop X15.b0))
 X15.c0))
def X15.k0 : List Item := [.inBlock 0, .code X15.c0]
def X15 : AFunc := ⟨40, [], X15.main, false⟩
def X17.main : ACode := (.seq (.seq (.region false [
 ⟨some 4, .mv (.cst .nilf), none, [], []⟩])
 (.ghost (.kill [4])))
 (.seq (.region true [
 ⟨some 5, .load false 1 (.tmp 1), none, [], [1]⟩,
 ⟨some 6, .mv (.tmp 0), none, [], [0]⟩,
 ⟨some 7, .iaddrA 2 1 (.tmp 2) (.cst (.int .i64 0)), none, [], [2]⟩,
 ⟨some 8, .load false 1 (.tmp 7), none, [2], [7]⟩,
 ⟨some 9, .iaddr 3 (.tmp 6) (.tmp 8), none, [1, 3], [6, 8]⟩,
 ⟨some 10, .load true 3 (.tmp 9), none, [4], [9]⟩,
 ⟨some 11, .lookup (.row [(0, 1, false, (.int .i64)), (1, 1, false, (.int .i64)), (2, 1, false, .str)]) .nils false (.tmp 5) (.tmp 10), none, [0, 5], [5, 10]⟩,
 ⟨some 12, .call true i_X6 [(.tmp 11)], none, [6], [11]⟩,
 ⟨some 4, .mv (.tmp 12), none, [7, 7, 0, 1, 2, 3, 4, 5, 6, 7], [12]⟩])
 .ret))
def X17 : AFunc := ⟨13, [.tmp 4], X17.main, false⟩
def X6.main : ACode := (.seq (.seq (.region false [
 ⟨some 1, .box 1 (.tmp 0), none, [], []⟩,
 ⟨some 2, .mv (.cst .nilf), none, [], []⟩])
 (.ghost (.kill [0, 2])))
 (.seq (.region false [
 ⟨some 3, .mkfn (.func i_X5) [] [(.tmp 1)], none, [], []⟩,
 ⟨some 2, .mv (.tmp 3), none, [], []⟩])
 .ret))
def X6 : AFunc := ⟨4, [.tmp 2], X6.main, false⟩
def X11.c0 : ACode := (.seq (.region false [
 ⟨some 17, .mv (.tmp 3), none, [], []⟩,
 ⟨some 2, .mv (.tmp 17), none, [], []⟩])
 .ret)
def X11.b0 : ACode := (.seq (.region false [
 ⟨some 9, .bin .lss (.tmp 8) (.tmp 7), none, [], []⟩])
 (.seq (.cond (.tmp 9) .skip
 (.exit 0))
 (.seq (.seq (.block 1 (.seq (.seq (.region false [
 ⟨some 10, .iaddr 1 (.tmp 6) (.tmp 8), none, [], []⟩,
 ⟨some 11, .load false 1 (.tmp 10), none, [], []⟩,
 ⟨some 5, .mv (.tmp 11), none, [], []⟩])
 (.ghost (.kill [9, 10, 11])))
 (.seq (.seq (.region false [
 ⟨some 12, .mv (.tmp 5), none, [], []⟩,
 ⟨some 13, .mv (.tmp 3), none, [], []⟩,
 ⟨some 14, .bin .neq (.tmp 12) (.tmp 13), none, [], []⟩])
 (.ghost (.kill [12, 13])))
 (.cond (.tmp 14) (.seq (.region false [
   ⟨some 15, .mv (.tmp 5), none, [], []⟩,
   ⟨some 2, .mv (.tmp 15), none, [], []⟩])
  .ret)
 .skip))))
 (.ghost (.kill [5, 14])))
 (.seq (.region false [
 ⟨some 16, .bin .add (.tmp 8) (.cst (.int .i64 1)), none, [], []⟩,
 ⟨some 8, .mv (.tmp 16), none, [], []⟩])
 (.ghost (.kill [16]))))))
def X11.main : ACode := (.seq (.seq (.region false [
 ⟨some 2, .mv (.cst (.int .i64 0)), none, [], []⟩])
 (.ghost (.kill [2])))
 (.seq (.region false [
 ⟨some 3, .mv (.cst (.int .i64 0)), none, [], []⟩])
 (.seq (.seq (.seq (.region false [
 ⟨some 6, .mv (.tmp 0), none, [], []⟩,
 ⟨some 7, .len .sl (.tmp 6), none, [], []⟩,
 ⟨some 8, .mv (.cst (.int .i64 0)), none, [], []⟩])
 (.ghost (.kill [0])))
 (.seq (.block 0 (.loop X11.b0))
 (.ghost (.kill [6, 7, 8, 9]))))
 X11.c0)))
def X11.k0 : List Item := [.inBlock 0, .code (.ghost (.kill [6, 7, 8, 9])), .code X11.c0]
def X11 : AFunc := ⟨18, [.tmp 2], X11.main, false⟩
def X12.main : ACode := (.seq (.seq (.region false [
 ⟨some 4, .mv (.cst (.int .i64 0)), none, [], []⟩])
 (.ghost (.kill [4])))
 (.seq (.seq (.region false [
 ⟨some 7, .mv (.tmp 0), none, [], []⟩,
 ⟨some 8, .call true i_X16 [(.tmp 7)], none, [], []⟩,
 ⟨some 5, .mv (.tmp 8), none, [], []⟩])
 (.ghost (.kill [7, 8])))
 (.seq (.seq (.region false [
 ⟨some 9, .mv (.tmp 1), none, [], []⟩,
 ⟨some 10, .call true i_X16 [(.tmp 9)], none, [], []⟩,
 ⟨some 6, .mv (.tmp 10), none, [], []⟩])
 (.ghost (.kill [9, 10])))
 (.seq (.seq (.seq (.region false [
 ⟨some 11, .mv (.tmp 5), none, [], []⟩])
 (.ghost (.kill [5])))
 (.cond (.tmp 11) (.seq (.seq (.seq (.region false [
   ⟨some 12, .mv (.tmp 6), none, [], []⟩])
  (.ghost (.kill [0, 1, 6, 11])))
  (.cond (.tmp 12) (.seq (.region false [
    ⟨some 4, .mv (.cst (.int .i64 0)), none, [], []⟩])
   .ret)
  .skip))
  (.seq (.region false [
   ⟨some 4, .mv (.cst (.int .i64 (-1))), none, [], []⟩])
  .ret))
 .skip))
 (.seq (.seq (.seq (.region false [
 ⟨some 13, .mv (.tmp 6), none, [], []⟩])
 (.ghost (.kill [6, 11])))
 (.cond (.tmp 13) (.seq (.region false [
   ⟨some 4, .mv (.cst (.int .i64 1)), none, [], []⟩])
  .ret)
 .skip))
 (.seq (.seq (.seq (.region false [
 ⟨some 14, .mv (.tmp 0), none, [], []⟩,
 ⟨some 15, .mv (.tmp 1), none, [], []⟩,
 ⟨some 16, .bin .lss (.tmp 14) (.tmp 15), none, [], []⟩])
 (.ghost (.kill [13, 14, 15])))
 (.cond (.tmp 16) (.seq (.region false [
   ⟨some 4, .mv (.cst (.int .i64 (-1))), none, [], []⟩])
  .ret)
 .skip))
 (.seq (.seq (.seq (.region false [
 ⟨some 17, .mv (.tmp 0), none, [], []⟩,
 ⟨some 18, .mv (.tmp 1), none, [], []⟩,
 ⟨some 19, .bin .gtr (.tmp 17) (.tmp 18), none, [], []⟩])
 (.ghost (.kill [0, 1, 16, 17, 18])))
 (.cond (.tmp 19) (.seq (.region false [
   ⟨some 4, .mv (.cst (.int .i64 1)), none, [], []⟩])
  .ret)
 .skip))
 (.seq (.region false [
 ⟨some 4, .mv (.cst (.int .i64 0)), none, [], []⟩])
 .ret))))))))
def X12 : AFunc := ⟨20, [.tmp 4], X12.main, false⟩
def X8.main : ACode := (.seq (.seq (.region false [
 ⟨some 4, .mv (.cst (.int .i64 0)), none, [], []⟩])
 (.ghost (.kill [4])))
 (.seq (.seq (.region false [
 ⟨some 7, .mv (.tmp 0), none, [], []⟩,
 ⟨some 8, .call true i_X10 [(.tmp 7)], none, [], []⟩,
 ⟨some 5, .mv (.tmp 8), none, [], []⟩])
 (.ghost (.kill [7, 8])))
 (.seq (.seq (.region false [
 ⟨some 9, .mv (.tmp 1), none, [], []⟩,
 ⟨some 10, .call true i_X10 [(.tmp 9)], none, [], []⟩,
 ⟨some 6, .mv (.tmp 10), none, [], []⟩])
 (.ghost (.kill [9, 10])))
 (.seq (.seq (.seq (.region false [
 ⟨some 11, .mv (.tmp 5), none, [], []⟩])
 (.ghost (.kill [5])))
 (.cond (.tmp 11) (.seq (.seq (.seq (.region false [
   ⟨some 12, .mv (.tmp 6), none, [], []⟩])
  (.ghost (.kill [0, 1, 6, 11])))
  (.cond (.tmp 12) (.seq (.region false [
    ⟨some 4, .mv (.cst (.int .i64 0)), none, [], []⟩])
   .ret)
  .skip))
  (.seq (.region false [
   ⟨some 4, .mv (.cst (.int .i64 (-1))), none, [], []⟩])
  .ret))
 .skip))
 (.seq (.seq (.seq (.region false [
 ⟨some 13, .mv (.tmp 6), none, [], []⟩])
 (.ghost (.kill [6, 11])))
 (.cond (.tmp 13) (.seq (.region false [
   ⟨some 4, .mv (.cst (.int .i64 1)), none, [], []⟩])
  .ret)
 .skip))
 (.seq (.seq (.seq (.region false [
 ⟨some 14, .mv (.tmp 0), none, [], []⟩,
 ⟨some 15, .mv (.tmp 1), none, [], []⟩,
 ⟨some 16, .bin .lss (.tmp 14) (.tmp 15), none, [], []⟩])
 (.ghost (.kill [13, 14, 15])))
 (.cond (.tmp 16) (.seq (.region false [
   ⟨some 4, .mv (.cst (.int .i64 (-1))), none, [], []⟩])
  .ret)
 .skip))
 (.seq (.seq (.seq (.region false [
 ⟨some 17, .mv (.tmp 0), none, [], []⟩,
 ⟨some 18, .mv (.tmp 1), none, [], []⟩,
 ⟨some 19, .bin .gtr (.tmp 17) (.tmp 18), none, [], []⟩])
 (.ghost (.kill [0, 1, 16, 17, 18])))
 (.cond (.tmp 19) (.seq (.region false [
   ⟨some 4, .mv (.cst (.int .i64 1)), none, [], []⟩])
  .ret)
 .skip))
 (.seq (.region false [
 ⟨some 4, .mv (.cst (.int .i64 0)), none, [], []⟩])
 .ret))))))))
def X8 : AFunc := ⟨20, [.tmp 4], X8.main, false⟩
def X26.c0 : ACode := (.seq (.region false [
 ⟨some 56, .load false 1 (.tmp 3), none, [], []⟩,
 ⟨some 57, .load false 1 (.tmp 2), none, [], []⟩,
 ⟨some 58, .mv (.tmp 7), none, [], []⟩,
 ⟨some 59, .slice 1 (.tmp 56) (some (.tmp 57)) (some (.tmp 58)) none, none, [], []⟩,
 ⟨some 60, .call true i_X6 [(.tmp 59)], none, [], []⟩,
 ⟨some 5, .mv (.tmp 60), none, [], []⟩])
 .ret)
def X26.b1 : ACode := (.seq (.seq (.seq (.region true [
 ⟨some 33, .mv (.tmp 7), none, [], [7]⟩,
 ⟨some 34, .load false 1 (.tmp 3), none, [], [3]⟩,
 ⟨some 35, .len .sl (.tmp 34), none, [1], [34]⟩,
 ⟨some 36, .bin .lss (.tmp 33) (.tmp 35), none, [0, 2], [33, 35]⟩,
 ⟨some 37, .mv (.tmp 36), none, [3], [36]⟩,
 ⟨some 38, .faddr 0 (.tmp 6), (some ((some 37), true)), [4], [6]⟩,
 ⟨some 39, .load false 1 (.tmp 38), (some ((some 37), true)), [5, 4], [38]⟩,
 ⟨some 40, .bin .neq (.tmp 39) (.cst (.int .i64 0)), (some ((some 37), true)), [6, 4], [39]⟩,
 ⟨some 41, .pick (.tmp 37) (.tmp 40) (.cst (.bool false)), none, [4, 7], [37, 40]⟩,
 ⟨some 42, .mv (.tmp 41), none, [8, 4], [41]⟩,
 ⟨some 43, .load false 1 (.tmp 3), (some ((some 42), true)), [9], [3]⟩,
 ⟨some 44, .mv (.tmp 7), (some ((some 42), true)), [9], [7]⟩,
 ⟨some 45, .iaddr 1 (.tmp 43) (.tmp 44), (some ((some 42), true)), [10, 11, 9], [43, 44]⟩,
 ⟨some 46, .load false 1 (.tmp 45), (some ((some 42), true)), [12, 9], [45]⟩,
 ⟨some 47, .iaddrA 2 1 (.tmp 1) (.cst (.int .i64 1)), (some ((some 42), true)), [9], [1]⟩,
 ⟨some 48, .load false 1 (.tmp 47), (some ((some 42), true)), [14, 9], [47]⟩,
 ⟨some 49, .iaddr 3 (.tmp 46) (.tmp 48), (some ((some 42), true)), [13, 15, 9], [46, 48]⟩,
 ⟨some 50, .load true 3 (.tmp 49), (some ((some 42), true)), [16, 9], [49]⟩,
 ⟨some 51, .load true 3 (.tmp 6), (some ((some 42), true)), [9], [6]⟩,
 ⟨some 52, .eqs false (.row [(0, 1, false, (.int .i64)), (1, 1, false, (.int .i64)), (2, 1, false, .str)]) (.tmp 50) (.tmp 51), (some ((some 42), true)), [17, 18, 9], [50, 51]⟩,
 ⟨some 53, .pick (.tmp 42) (.tmp 52) (.cst (.bool false)), none, [9, 19], [42, 52]⟩])
 (.ghost (.kill [33, 34, 35, 36, 37, 38, 39, 40, 41, 42, 43, 44, 45, 46, 47, 48, 49, 50, 51, 52])))
 (.cond (.tmp 53) .skip
 (.exit 2)))
 (.block 3 (.seq (.region false [
 ⟨some 54, .mv (.tmp 7), none, [], []⟩,
 ⟨some 55, .bin .add (.tmp 54) (.cst (.int .i64 1)), none, [], []⟩,
 ⟨some 7, .mv (.tmp 55), none, [], []⟩])
 (.ghost (.kill [53, 54, 55])))))
def X26.c1 : ACode := (.seq (.seq (.region false [
 ⟨some 32, .load false 1 (.tmp 2), none, [], []⟩,
 ⟨some 7, .mv (.tmp 32), none, [], []⟩])
 (.ghost (.kill [32])))
 (.seq (.seq (.block 2 (.loop X26.b1))
 (.ghost (.kill [6, 53])))
 X26.c0))
def X26.b0 : ACode := (.seq (.seq (.seq (.region true [
 ⟨some 13, .load false 1 (.tmp 2), none, [], [2]⟩,
 ⟨some 14, .load false 1 (.tmp 3), none, [], [3]⟩,
 ⟨some 15, .len .sl (.tmp 14), none, [1], [14]⟩,
 ⟨some 16, .bin .lss (.tmp 13) (.tmp 15), none, [0, 2], [13, 15]⟩,
 ⟨some 17, .mv (.tmp 16), none, [3], [16]⟩,
 ⟨some 18, .load false 1 (.tmp 3), (some ((some 17), true)), [4], [3]⟩,
 ⟨some 19, .load false 1 (.tmp 2), (some ((some 17), true)), [4], [2]⟩,
 ⟨some 20, .iaddr 1 (.tmp 18) (.tmp 19), (some ((some 17), true)), [5, 6, 4], [18, 19]⟩,
 ⟨some 21, .load false 1 (.tmp 20), (some ((some 17), true)), [7, 4], [20]⟩,
 ⟨some 22, .iaddrA 2 1 (.tmp 1) (.cst (.int .i64 1)), (some ((some 17), true)), [4], [1]⟩,
 ⟨some 23, .load false 1 (.tmp 22), (some ((some 17), true)), [9, 4], [22]⟩,
 ⟨some 24, .iaddr 3 (.tmp 21) (.tmp 23), (some ((some 17), true)), [8, 10, 4], [21, 23]⟩,
 ⟨some 25, .load true 3 (.tmp 24), (some ((some 17), true)), [11, 4], [24]⟩,
 ⟨some 26, .load true 3 (.tmp 6), (some ((some 17), true)), [4], [6]⟩,
 ⟨some 27, .call true i_X46 [(.tmp 25), (.tmp 26)], (some ((some 17), true)), [12, 13, 4, 4], [25, 26]⟩,
 ⟨some 28, .bin .lss (.tmp 27) (.cst (.int .i64 0)), (some ((some 17), true)), [14, 4], [27]⟩,
 ⟨some 29, .pick (.tmp 17) (.tmp 28) (.cst (.bool false)), none, [4, 15], [17, 28]⟩])
 (.ghost (.kill [13, 14, 15, 16, 17, 18, 19, 20, 21, 22, 23, 24, 25, 26, 27, 28])))
 (.cond (.tmp 29) .skip
 (.exit 0)))
 (.block 1 (.seq (.region false [
 ⟨some 30, .load false 1 (.tmp 2), none, [], []⟩,
 ⟨some 31, .bin .add (.tmp 30) (.cst (.int .i64 1)), none, [], []⟩,
 ⟨none, .store 1 (.tmp 2) (.tmp 31), none, [], []⟩])
 (.ghost (.kill [29, 30, 31])))))
def X26.main : ACode := (.seq (.seq (.region false [
 ⟨some 5, .mv (.cst .nilf), none, [], []⟩])
 (.ghost (.kill [5])))
 (.seq (.seq (.region false [
 ⟨some 8, .mv (.tmp 0), none, [], []⟩,
 ⟨some 9, .iaddrA 2 1 (.tmp 1) (.cst (.int .i64 0)), none, [], []⟩,
 ⟨some 10, .load false 1 (.tmp 9), none, [], []⟩,
 ⟨some 11, .iaddr 3 (.tmp 8) (.tmp 10), none, [], []⟩,
 ⟨some 12, .load true 3 (.tmp 11), none, [], []⟩,
 ⟨some 6, .alloc [(.int .i64 0), (.int .i64 0), (.str ⟨#[]⟩)], none, [], []⟩,
 ⟨none, .store 3 (.tmp 6) (.tmp 12), none, [], []⟩])
 (.ghost (.kill [0, 8, 9, 10, 11, 12])))
 (.seq (.seq (.block 0 (.loop X26.b0))
 (.ghost (.kill [29])))
 X26.c1)))
def X26.k1 : List Item := [.inBlock 2, .code (.ghost (.kill [6, 53])), .code X26.c0]
def X26.k0 : List Item := [.inBlock 0, .code (.ghost (.kill [29])), .code X26.c1]
def X26 : AFunc := ⟨61, [.tmp 5], X26.main, false⟩
def X3.c0 : ACode := (.seq (.region false [
 ⟨some 4, .mv (.cst (.int .i64 (-1))), none, [], []⟩])
 .ret)
def X3.c1 : ACode := (.ghost (.kill [0, 1, 7, 8, 9]))
def X3.b0 : ACode := (.seq (.region false [
 ⟨some 9, .bin .lss (.tmp 8) (.tmp 7), none, [], []⟩])
 (.seq (.cond (.tmp 9) .skip
 (.exit 0))
 (.seq (.seq (.block 1 (.seq (.seq (.region false [
 ⟨some 10, .mv (.tmp 8), none, [], []⟩,
 ⟨some 5, .mv (.tmp 10), none, [], []⟩])
 (.ghost (.kill [9, 10])))
 (.seq (.seq (.region false [
 ⟨some 11, .mv (.tmp 1), none, [], []⟩,
 ⟨some 12, .mv (.tmp 0), none, [], []⟩,
 ⟨some 13, .mv (.tmp 5), none, [], []⟩,
 ⟨some 14, .iaddr 1 (.tmp 12) (.tmp 13), none, [], []⟩,
 ⟨some 15, .load false 1 (.tmp 14), none, [], []⟩,
 ⟨some 16, .callv true (.tmp 11) [(.tmp 15)], none, [], []⟩])
 (.ghost (.kill [11, 12, 13, 14, 15])))
 (.cond (.tmp 16) (.seq (.region false [
   ⟨some 17, .mv (.tmp 5), none, [], []⟩,
   ⟨some 4, .mv (.tmp 17), none, [], []⟩])
  .ret)
 .skip))))
 (.ghost (.kill [5, 16])))
 (.seq (.region false [
 ⟨some 18, .bin .add (.tmp 8) (.cst (.int .i64 1)), none, [], []⟩,
 ⟨some 8, .mv (.tmp 18), none, [], []⟩])
 (.ghost (.kill [18]))))))
def X3.main : ACode := (.seq (.seq (.region false [
 ⟨some 4, .mv (.cst (.int .i64 0)), none, [], []⟩])
 (.ghost (.kill [4])))
 (.seq (.seq (.seq (.region false [
 ⟨some 6, .mv (.tmp 0), none, [], []⟩,
 ⟨some 7, .len .sl (.tmp 6), none, [], []⟩,
 ⟨some 8, .mv (.cst (.int .i64 0)), none, [], []⟩])
 (.ghost (.kill [6])))
 (.seq (.block 0 (.loop X3.b0))
 X3.c1))
 X3.c0))
def X3.k0 : List Item := [.inBlock 0, .code X3.c1, .code X3.c0]
def X3 : AFunc := ⟨19, [.tmp 4], X3.main, false⟩
def X4.main : ACode := (.seq (.seq (.region false [
 ⟨some 2, .mv (.cst .nils), none, [], []⟩])
 (.ghost (.kill [2])))
 (.seq (.seq (.seq (.region false [
 ⟨some 3, .mv (.tmp 0), none, [], []⟩,
 ⟨some 4, .eqnil false .sl (.tmp 3), none, [], []⟩])
 (.ghost (.kill [3])))
 (.cond (.tmp 4) (.seq (.region false [
   ⟨some 2, .mv (.cst .nils), none, [], []⟩])
  .ret)
 .skip))
 (.seq (.region false [
 ⟨some 5, .bslice 3 0 [(.int .i64 0), (.int .i64 0), (.str ⟨#[]⟩)] [], none, [], []⟩,
 ⟨some 6, .mv (.tmp 0), none, [], []⟩,
 ⟨some 7, .append 3 32 (.tmp 5) (.tmp 6), none, [], []⟩,
 ⟨some 2, .mv (.tmp 7), none, [], []⟩])
 .ret)))
def X4 : AFunc := ⟨8, [.tmp 2], X4.main, false⟩
def X5.c0 : ACode := (.ghost (.kill [0, 5, 6, 7, 8]))
def X5.b0 : ACode := (.seq (.region false [
 ⟨some 8, .bin .lss (.tmp 7) (.tmp 6), none, [], []⟩])
 (.seq (.cond (.tmp 8) .skip
 (.exit 0))
 (.seq (.trunc (.seq (.block 1 (.seq (.seq (.region false [
 ⟨some 9, .iaddr 1 (.tmp 5) (.tmp 7), none, [], []⟩,
 ⟨some 10, .load false 1 (.tmp 9), none, [], []⟩,
 ⟨some 4, .mv (.tmp 10), none, [], []⟩])
 (.ghost (.kill [8, 9, 10])))
 (.seq (.seq (.region false [
 ⟨some 11, .mv (.tmp 0), none, [], []⟩,
 ⟨some 12, .mv (.tmp 4), none, [], []⟩,
 ⟨some 13, .callv false (.tmp 11) [(.tmp 12)], none, [], []⟩,
 ⟨some 14, .un .not (.tmp 13), none, [], []⟩])
 (.ghost (.kill [4, 11, 12, 13])))
 (.cond (.tmp 14) .ret
 .skip))))
 (.ghost (.kill [14]))))
 (.seq (.region false [
 ⟨some 15, .bin .add (.tmp 7) (.cst (.int .i64 1)), none, [], []⟩,
 ⟨some 7, .mv (.tmp 15), none, [], []⟩])
 (.ghost (.kill [15]))))))
def X5.main : ACode := (.seq (.region false [
 ⟨some 5, .load false 1 (.tmp 1), none, [], []⟩,
 ⟨some 6, .len .sl (.tmp 5), none, [], []⟩,
 ⟨some 7, .mv (.cst (.int .i64 0)), none, [], []⟩])
 (.seq (.block 0 (.loop X5.b0))
 X5.c0))
def X5.k0 : List Item := [.inBlock 0, .code X5.c0]
def X5 : AFunc := ⟨16, [], X5.main, false⟩
def X16.main : ACode := (.seq (.seq (.region false [
 ⟨some 2, .mv (.cst (.bool false)), none, [], []⟩])
 (.ghost (.kill [2])))
 (.seq (.region false [
 ⟨some 3, .mv (.tmp 0), none, [], []⟩,
 ⟨some 4, .mv (.tmp 0), none, [], []⟩,
 ⟨some 5, .bin .neq (.tmp 3) (.tmp 4), none, [], []⟩,
 ⟨some 2, .mv (.tmp 5), none, [], []⟩])
 .ret))
def X16 : AFunc := ⟨6, [.tmp 2], X16.main, false⟩
def X10.main : ACode := (.seq (.seq (.region false [
 ⟨some 2, .mv (.cst (.bool false)), none, [], []⟩])
 (.ghost (.kill [2])))
 (.seq (.region false [
 ⟨some 3, .mv (.tmp 0), none, [], []⟩,
 ⟨some 4, .mv (.tmp 0), none, [], []⟩,
 ⟨some 5, .bin .neq (.tmp 3) (.tmp 4), none, [], []⟩,
 ⟨some 2, .mv (.tmp 5), none, [], []⟩])
 .ret))
def X10 : AFunc := ⟨6, [.tmp 2], X10.main, false⟩
def T : FuncId → Option AFunc
 | 3 => some X2
 | 4 => some X7
 | 5 => some X9
 | 6 => some X14
 | 9 => some X19
 | 10 => some X52
 | 11 => some X25
 | 12 => some X47
 | 13 => some X62
 | 14 => some X56
 | 15 => some X36
 | 16 => some X21
 | 17 => some X58
 | 18 => some X39
 | 19 => some X30
 | 20 => some X55
 | 21 => some X38
 | 22 => some X61
 | 23 => some X41
 | 24 => some X49
 | 25 => some X27
 | 26 => some X65
 | 27 => some X37
 | 28 => some X59
 | 29 => some X23
 | 31 => some X68
 | 32 => some X66
 | 33 => some X64
 | 34 => some X31
 | 35 => some X69
 | 36 => some X22
 | 37 => some X45
 | 38 => some X35
 | 39 => some X53
 | 40 => some X63
 | 41 => some X48
 | 42 => some X42
 | 43 => some X70
 | 44 => some X29
 | 48 => some X60
 | 49 => some X54
 | 50 => some X24
 | 51 => some X51
 | 52 => some X67
 | 53 => some X40
 | 54 => some X18
 | 55 => some X13
 | 56 => some X46
 | 57 => some X1
 | 58 => some X43
 | 59 => some X50
 | 60 => some X28
 | 61 => some X57
 | 62 => some X32
 | 68 => some X34
 | 69 => some X0
 | 70 => some X20
 | 71 => some X44
 | 72 => some X33
 | 73 => some X15
 | 74 => some X17
 | 75 => some X6
 | 76 => some X11
 | 77 => some X12
 | 78 => some X8
 | 79 => some X26
 | 83 => some X3
 | 84 => some X4
 | 85 => some X5
 | 86 => some X16
 | 87 => some X10
 | _ => none
theorem T_X2 : T i_X2 = some X2 := rfl
theorem T_X7 : T i_X7 = some X7 := rfl
theorem T_X9 : T i_X9 = some X9 := rfl
theorem T_X14 : T i_X14 = some X14 := rfl
theorem T_X19 : T i_X19 = some X19 := rfl
theorem T_X52 : T i_X52 = some X52 := rfl
theorem T_X25 : T i_X25 = some X25 := rfl
theorem T_X47 : T i_X47 = some X47 := rfl
theorem T_X62 : T i_X62 = some X62 := rfl
theorem T_X56 : T i_X56 = some X56 := rfl
theorem T_X36 : T i_X36 = some X36 := rfl
theorem T_X21 : T i_X21 = some X21 := rfl
theorem T_X58 : T i_X58 = some X58 := rfl
theorem T_X39 : T i_X39 = some X39 := rfl
theorem T_X30 : T i_X30 = some X30 := rfl
theorem T_X55 : T i_X55 = some X55 := rfl
theorem T_X38 : T i_X38 = some X38 := rfl
theorem T_X61 : T i_X61 = some X61 := rfl
theorem T_X41 : T i_X41 = some X41 := rfl
theorem T_X49 : T i_X49 = some X49 := rfl
theorem T_X27 : T i_X27 = some X27 := rfl
theorem T_X65 : T i_X65 = some X65 := rfl
theorem T_X37 : T i_X37 = some X37 := rfl
theorem T_X59 : T i_X59 = some X59 := rfl
theorem T_X23 : T i_X23 = some X23 := rfl
theorem T_X68 : T i_X68 = some X68 := rfl
theorem T_X66 : T i_X66 = some X66 := rfl
theorem T_X64 : T i_X64 = some X64 := rfl
theorem T_X31 : T i_X31 = some X31 := rfl
theorem T_X69 : T i_X69 = some X69 := rfl
theorem T_X22 : T i_X22 = some X22 := rfl
theorem T_X45 : T i_X45 = some X45 := rfl
theorem T_X35 : T i_X35 = some X35 := rfl
theorem T_X53 : T i_X53 = some X53 := rfl
theorem T_X63 : T i_X63 = some X63 := rfl
theorem T_X48 : T i_X48 = some X48 := rfl
theorem T_X42 : T i_X42 = some X42 := rfl
theorem T_X70 : T i_X70 = some X70 := rfl
theorem T_X29 : T i_X29 = some X29 := rfl
theorem T_X60 : T i_X60 = some X60 := rfl
theorem T_X54 : T i_X54 = some X54 := rfl
theorem T_X24 : T i_X24 = some X24 := rfl
theorem T_X51 : T i_X51 = some X51 := rfl
theorem T_X67 : T i_X67 = some X67 := rfl
theorem T_X40 : T i_X40 = some X40 := rfl
theorem T_X18 : T i_X18 = some X18 := rfl
theorem T_X13 : T i_X13 = some X13 := rfl
theorem T_X46 : T i_X46 = some X46 := rfl
theorem T_X1 : T i_X1 = some X1 := rfl
theorem T_X43 : T i_X43 = some X43 := rfl
theorem T_X50 : T i_X50 = some X50 := rfl
theorem T_X28 : T i_X28 = some X28 := rfl
theorem T_X57 : T i_X57 = some X57 := rfl
theorem T_X32 : T i_X32 = some X32 := rfl
theorem T_X34 : T i_X34 = some X34 := rfl
theorem T_X0 : T i_X0 = some X0 := rfl
theorem T_X20 : T i_X20 = some X20 := rfl
theorem T_X44 : T i_X44 = some X44 := rfl
theorem T_X33 : T i_X33 = some X33 := rfl
theorem T_X15 : T i_X15 = some X15 := rfl
theorem T_X17 : T i_X17 = some X17 := rfl
theorem T_X6 : T i_X6 = some X6 := rfl
theorem T_X11 : T i_X11 = some X11 := rfl
theorem T_X12 : T i_X12 = some X12 := rfl
theorem T_X8 : T i_X8 = some X8 := rfl
theorem T_X26 : T i_X26 = some X26 := rfl
theorem T_X3 : T i_X3 = some X3 := rfl
theorem T_X4 : T i_X4 = some X4 := rfl
theorem T_X5 : T i_X5 = some X5 := rfl
theorem T_X16 : T i_X16 = some X16 := rfl
theorem T_X10 : T i_X10 = some X10 := rfl
end Go.Abs
