/- The printed functions are the program's. -/
import Derived.Test.YtpclhokdlhcjkaaC42F
import Derived.Test.YtpclhokdlhcjkaaChecked
import Derived.Test.YtpclhokdlhcjkaaAbsSound
import Derived.KernelRfl
set_option linter.all false
namespace Go.Abs
open Go
open Go.Proofs
instance : Inhabited Glob := ⟨⟨fun g => none⟩⟩
theorem ok_l42_WindowNumbers : FuncOk Try.prog 5 l42_WindowNumbers := ⟨_, _, Try.func5, rfl, by kernel_rfl, by kernel_rfl, by kernel_rfl, by kernel_rfl, by kernel_rfl⟩
theorem ok_l42_WindowLags : FuncOk Try.prog 8 l42_WindowLags := ⟨_, _, Try.func8, rfl, by kernel_rfl, by kernel_rfl, by kernel_rfl, by kernel_rfl, by kernel_rfl⟩
theorem ok_l42_examples : FuncOk Try.prog 9 l42_examples := ⟨_, _, Try.func9, rfl, by kernel_rfl, by kernel_rfl, by kernel_rfl, by kernel_rfl, by kernel_rfl⟩
theorem ok_r42_Rows : FuncOk Try.prog 11 r42_Rows := ⟨_, _, Try.func11, rfl, by kernel_rfl, by kernel_rfl, by kernel_rfl, by kernel_rfl, by kernel_rfl⟩
theorem ok_r42_Alike : FuncOk Try.prog 12 r42_Alike := ⟨_, _, Try.func12, rfl, by kernel_rfl, by kernel_rfl, by kernel_rfl, by kernel_rfl, by kernel_rfl⟩
theorem ok_l42_computed : FuncOk Try.prog 13 l42_computed := ⟨_, _, Try.func13, rfl, by kernel_rfl, by kernel_rfl, by kernel_rfl, by kernel_rfl, by kernel_rfl⟩
theorem ok_l42_order : FuncOk Try.prog 15 l42_order := ⟨_, _, Try.func15, rfl, by kernel_rfl, by kernel_rfl, by kernel_rfl, by kernel_rfl, by kernel_rfl⟩
theorem ok_l42_appended : FuncOk Try.prog 17 l42_appended := ⟨_, _, Try.func17, rfl, by kernel_rfl, by kernel_rfl, by kernel_rfl, by kernel_rfl, by kernel_rfl⟩
theorem ok_r42_Win : FuncOk Try.prog 19 r42_Win := ⟨_, _, Try.func19, rfl, by kernel_rfl, by kernel_rfl, by kernel_rfl, by kernel_rfl, by kernel_rfl⟩
theorem ok_r42_Cmp : FuncOk Try.prog 20 r42_Cmp := ⟨_, _, Try.func20, rfl, by kernel_rfl, by kernel_rfl, by kernel_rfl, by kernel_rfl, by kernel_rfl⟩
theorem ok_r06_Whole : FuncOk Try.prog 21 r06_Whole := ⟨_, _, Try.func21, rfl, by kernel_rfl, by kernel_rfl, by kernel_rfl, by kernel_rfl, by kernel_rfl⟩
theorem ok_r06_Cmp : FuncOk Try.prog 22 r06_Cmp := ⟨_, _, Try.func22, rfl, by kernel_rfl, by kernel_rfl, by kernel_rfl, by kernel_rfl, by kernel_rfl⟩
theorem ok_r06_Num : FuncOk Try.prog 23 r06_Num := ⟨_, _, Try.func23, rfl, by kernel_rfl, by kernel_rfl, by kernel_rfl, by kernel_rfl, by kernel_rfl⟩
theorem ok_r06_Null : FuncOk Try.prog 24 r06_Null := ⟨_, _, Try.func24, rfl, by kernel_rfl, by kernel_rfl, by kernel_rfl, by kernel_rfl, by kernel_rfl⟩
theorem ok_r06_Same : FuncOk Try.prog 26 r06_Same := ⟨_, _, Try.func26, rfl, by kernel_rfl, by kernel_rfl, by kernel_rfl, by kernel_rfl, by kernel_rfl⟩
theorem ok_l42_values : FuncOk Try.prog 27 l42_values := ⟨_, _, Try.func27, rfl, by kernel_rfl, by kernel_rfl, by kernel_rfl, by kernel_rfl, by kernel_rfl⟩
theorem ok_r06_Str : FuncOk Try.prog 28 r06_Str := ⟨_, _, Try.func28, rfl, by kernel_rfl, by kernel_rfl, by kernel_rfl, by kernel_rfl, by kernel_rfl⟩
theorem ok_r06_Bool : FuncOk Try.prog 29 r06_Bool := ⟨_, _, Try.func29, rfl, by kernel_rfl, by kernel_rfl, by kernel_rfl, by kernel_rfl, by kernel_rfl⟩
theorem ok_r03_Ints : FuncOk Try.prog 30 r03_Ints := ⟨_, _, Try.func30, rfl, by kernel_rfl, by kernel_rfl, by kernel_rfl, by kernel_rfl, by kernel_rfl⟩
theorem ok_r06_SameRows : FuncOk Try.prog 31 r06_SameRows := ⟨_, _, Try.func31, rfl, by kernel_rfl, by kernel_rfl, by kernel_rfl, by kernel_rfl, by kernel_rfl⟩
theorem ok_window_Compute : FuncOk Try.prog 32 window_Compute := ⟨_, _, Try.func32, rfl, by kernel_rfl, by kernel_rfl, by kernel_rfl, by kernel_rfl, by kernel_rfl⟩
theorem ok_window_Order : FuncOk Try.prog 36 window_Order := ⟨_, _, Try.func36, rfl, by kernel_rfl, by kernel_rfl, by kernel_rfl, by kernel_rfl, by kernel_rfl⟩
theorem ok_window_Append : FuncOk Try.prog 39 window_Append := ⟨_, _, Try.func39, rfl, by kernel_rfl, by kernel_rfl, by kernel_rfl, by kernel_rfl, by kernel_rfl⟩
theorem ok_r06_sign : FuncOk Try.prog 40 r06_sign := ⟨_, _, Try.func40, rfl, by kernel_rfl, by kernel_rfl, by kernel_rfl, by kernel_rfl, by kernel_rfl⟩
theorem ok_r06_Strings : FuncOk Try.prog 41 r06_Strings := ⟨_, _, Try.func41, rfl, by kernel_rfl, by kernel_rfl, by kernel_rfl, by kernel_rfl, by kernel_rfl⟩
theorem ok_r06_CmpList : FuncOk Try.prog 42 r06_CmpList := ⟨_, _, Try.func42, rfl, by kernel_rfl, by kernel_rfl, by kernel_rfl, by kernel_rfl, by kernel_rfl⟩
theorem ok_window_table : FuncOk Try.prog 43 window_table := ⟨_, _, Try.func43, rfl, by kernel_rfl, by kernel_rfl, by kernel_rfl, by kernel_rfl, by kernel_rfl⟩
theorem ok_slices_Concat_int : FuncOk Try.prog 44 slices_Concat_int := ⟨_, _, Try.func44, rfl, by kernel_rfl, by kernel_rfl, by kernel_rfl, by kernel_rfl, by kernel_rfl⟩
theorem ok_window_Compute_1 : FuncOk Try.prog 45 window_Compute_1 := ⟨_, _, Try.func45, rfl, by kernel_rfl, by kernel_rfl, by kernel_rfl, by kernel_rfl, by kernel_rfl⟩
theorem ok_slices_ContainsFunc_Value : FuncOk Try.prog 46 slices_ContainsFunc_Value := ⟨_, _, Try.func46, rfl, by kernel_rfl, by kernel_rfl, by kernel_rfl, by kernel_rfl, by kernel_rfl⟩
theorem ok_window_partitions : FuncOk Try.prog 47 window_partitions := ⟨_, _, Try.func47, rfl, by kernel_rfl, by kernel_rfl, by kernel_rfl, by kernel_rfl, by kernel_rfl⟩
theorem ok_window_sorted : FuncOk Try.prog 48 window_sorted := ⟨_, _, Try.func48, rfl, by kernel_rfl, by kernel_rfl, by kernel_rfl, by kernel_rfl, by kernel_rfl⟩
theorem ok_window_state_next : FuncOk Try.prog 49 window_state_next := ⟨_, _, Try.func49, rfl, by kernel_rfl, by kernel_rfl, by kernel_rfl, by kernel_rfl, by kernel_rfl⟩
theorem ok_slices_Clone_Value : FuncOk Try.prog 51 slices_Clone_Value := ⟨_, _, Try.func51, rfl, by kernel_rfl, by kernel_rfl, by kernel_rfl, by kernel_rfl, by kernel_rfl⟩
theorem ok_slices_Grow_int : FuncOk Try.prog 52 slices_Grow_int := ⟨_, _, Try.func52, rfl, by kernel_rfl, by kernel_rfl, by kernel_rfl, by kernel_rfl, by kernel_rfl⟩
theorem ok_slices_IndexFunc_Value : FuncOk Try.prog 53 slices_IndexFunc_Value := ⟨_, _, Try.func53, rfl, by kernel_rfl, by kernel_rfl, by kernel_rfl, by kernel_rfl, by kernel_rfl⟩
theorem ok_slices_Equal_Value : FuncOk Try.prog 54 slices_Equal_Value := ⟨_, _, Try.func54, rfl, by kernel_rfl, by kernel_rfl, by kernel_rfl, by kernel_rfl, by kernel_rfl⟩
theorem ok_window_picked : FuncOk Try.prog 55 window_picked := ⟨_, _, Try.func55, rfl, by kernel_rfl, by kernel_rfl, by kernel_rfl, by kernel_rfl, by kernel_rfl⟩
theorem ok_slices_SortFunc_int : FuncOk Try.prog 56 slices_SortFunc_int := ⟨_, _, Try.func56, rfl, by kernel_rfl, by kernel_rfl, by kernel_rfl, by kernel_rfl, by kernel_rfl⟩
theorem ok_window_sorted_1 : FuncOk Try.prog 57 window_sorted_1 := ⟨_, _, Try.func57, rfl, by kernel_rfl, by kernel_rfl, by kernel_rfl, by kernel_rfl, by kernel_rfl⟩
theorem ok_cmp_Or_int : FuncOk Try.prog 58 cmp_Or_int := ⟨_, _, Try.func58, rfl, by kernel_rfl, by kernel_rfl, by kernel_rfl, by kernel_rfl, by kernel_rfl⟩
theorem ok_value_CmpList : FuncOk Try.prog 59 value_CmpList := ⟨_, _, Try.func59, rfl, by kernel_rfl, by kernel_rfl, by kernel_rfl, by kernel_rfl, by kernel_rfl⟩
theorem ok_cmp_Compare_int : FuncOk Try.prog 60 cmp_Compare_int := ⟨_, _, Try.func60, rfl, by kernel_rfl, by kernel_rfl, by kernel_rfl, by kernel_rfl, by kernel_rfl⟩
theorem ok_window_state_next_1 : FuncOk Try.prog 61 window_state_next_1 := ⟨_, _, Try.func61, rfl, by kernel_rfl, by kernel_rfl, by kernel_rfl, by kernel_rfl, by kernel_rfl⟩
theorem ok_slices_pdqsortCmpFunc_int : FuncOk Try.prog 62 slices_pdqsortCmpFunc_int := ⟨_, _, Try.func62, rfl, by kernel_rfl, by kernel_rfl, by kernel_rfl, by kernel_rfl, by kernel_rfl⟩
theorem ok_bits_Len : FuncOk Try.prog 63 bits_Len := ⟨_, _, Try.func63, rfl, by kernel_rfl, by kernel_rfl, by kernel_rfl, by kernel_rfl, by kernel_rfl⟩
theorem ok_slices_CompareFunc_Value : FuncOk Try.prog 64 slices_CompareFunc_Value := ⟨_, _, Try.func64, rfl, by kernel_rfl, by kernel_rfl, by kernel_rfl, by kernel_rfl, by kernel_rfl⟩
theorem ok_value_Cmp : FuncOk Try.prog 65 value_Cmp := ⟨_, _, Try.func65, rfl, by kernel_rfl, by kernel_rfl, by kernel_rfl, by kernel_rfl, by kernel_rfl⟩
theorem ok_cmp_isNaN_int : FuncOk Try.prog 66 cmp_isNaN_int := ⟨_, _, Try.func66, rfl, by kernel_rfl, by kernel_rfl, by kernel_rfl, by kernel_rfl, by kernel_rfl⟩
theorem ok_slices_insertionSortCmpFunc_int : FuncOk Try.prog 67 slices_insertionSortCmpFunc_int := ⟨_, _, Try.func67, rfl, by kernel_rfl, by kernel_rfl, by kernel_rfl, by kernel_rfl, by kernel_rfl⟩
theorem ok_slices_heapSortCmpFunc_int : FuncOk Try.prog 68 slices_heapSortCmpFunc_int := ⟨_, _, Try.func68, rfl, by kernel_rfl, by kernel_rfl, by kernel_rfl, by kernel_rfl, by kernel_rfl⟩
theorem ok_slices_breakPatternsCmpFunc_int : FuncOk Try.prog 69 slices_breakPatternsCmpFunc_int := ⟨_, _, Try.func69, rfl, by kernel_rfl, by kernel_rfl, by kernel_rfl, by kernel_rfl, by kernel_rfl⟩
theorem ok_slices_choosePivotCmpFunc_int : FuncOk Try.prog 70 slices_choosePivotCmpFunc_int := ⟨_, _, Try.func70, rfl, by kernel_rfl, by kernel_rfl, by kernel_rfl, by kernel_rfl, by kernel_rfl⟩
theorem ok_slices_reverseRangeCmpFunc_int : FuncOk Try.prog 71 slices_reverseRangeCmpFunc_int := ⟨_, _, Try.func71, rfl, by kernel_rfl, by kernel_rfl, by kernel_rfl, by kernel_rfl, by kernel_rfl⟩
theorem ok_slices_partialInsertionSortCmpFunc_int : FuncOk Try.prog 72 slices_partialInsertionSortCmpFunc_int := ⟨_, _, Try.func72, rfl, by kernel_rfl, by kernel_rfl, by kernel_rfl, by kernel_rfl, by kernel_rfl⟩
theorem ok_slices_partitionEqualCmpFunc_int : FuncOk Try.prog 73 slices_partitionEqualCmpFunc_int := ⟨_, _, Try.func73, rfl, by kernel_rfl, by kernel_rfl, by kernel_rfl, by kernel_rfl, by kernel_rfl⟩
theorem ok_slices_partitionCmpFunc_int : FuncOk Try.prog 74 slices_partitionCmpFunc_int := ⟨_, _, Try.func74, rfl, by kernel_rfl, by kernel_rfl, by kernel_rfl, by kernel_rfl, by kernel_rfl⟩
theorem ok_bits_Len32 : FuncOk Try.prog 75 bits_Len32 := ⟨_, _, Try.func75, rfl, by kernel_rfl, by kernel_rfl, by kernel_rfl, by kernel_rfl, by kernel_rfl⟩
theorem ok_bits_Len64 : FuncOk Try.prog 76 bits_Len64 := ⟨_, _, Try.func76, rfl, by kernel_rfl, by kernel_rfl, by kernel_rfl, by kernel_rfl, by kernel_rfl⟩
theorem ok_value_first_int : FuncOk Try.prog 77 value_first_int := ⟨_, _, Try.func77, rfl, by kernel_rfl, by kernel_rfl, by kernel_rfl, by kernel_rfl, by kernel_rfl⟩
theorem ok_cmp_Compare_string : FuncOk Try.prog 78 cmp_Compare_string := ⟨_, _, Try.func78, rfl, by kernel_rfl, by kernel_rfl, by kernel_rfl, by kernel_rfl, by kernel_rfl⟩
theorem ok_slices_siftDownCmpFunc_int : FuncOk Try.prog 79 slices_siftDownCmpFunc_int := ⟨_, _, Try.func79, rfl, by kernel_rfl, by kernel_rfl, by kernel_rfl, by kernel_rfl, by kernel_rfl⟩
theorem ok_slices_nextPowerOfTwo : FuncOk Try.prog 80 slices_nextPowerOfTwo := ⟨_, _, Try.func80, rfl, by kernel_rfl, by kernel_rfl, by kernel_rfl, by kernel_rfl, by kernel_rfl⟩
theorem ok_slices_xorshift_Next : FuncOk Try.prog 81 slices_xorshift_Next := ⟨_, _, Try.func81, rfl, by kernel_rfl, by kernel_rfl, by kernel_rfl, by kernel_rfl, by kernel_rfl⟩
theorem ok_slices_medianAdjacentCmpFunc_int : FuncOk Try.prog 82 slices_medianAdjacentCmpFunc_int := ⟨_, _, Try.func82, rfl, by kernel_rfl, by kernel_rfl, by kernel_rfl, by kernel_rfl, by kernel_rfl⟩
theorem ok_slices_medianCmpFunc_int : FuncOk Try.prog 83 slices_medianCmpFunc_int := ⟨_, _, Try.func83, rfl, by kernel_rfl, by kernel_rfl, by kernel_rfl, by kernel_rfl, by kernel_rfl⟩
theorem ok_cmp_isNaN_string : FuncOk Try.prog 84 cmp_isNaN_string := ⟨_, _, Try.func84, rfl, by kernel_rfl, by kernel_rfl, by kernel_rfl, by kernel_rfl, by kernel_rfl⟩
theorem ok_slices_order2CmpFunc_int : FuncOk Try.prog 85 slices_order2CmpFunc_int := ⟨_, _, Try.func85, rfl, by kernel_rfl, by kernel_rfl, by kernel_rfl, by kernel_rfl, by kernel_rfl⟩
theorem T_ok : ∀ f af, T f = some af → FuncOk Try.prog f af := by
  intro f af h
  unfold T at h
  split at h
  · cases h; exact ok_l42_WindowNumbers
  · cases h; exact ok_l42_WindowLags
  · cases h; exact ok_l42_examples
  · cases h; exact ok_r42_Rows
  · cases h; exact ok_r42_Alike
  · cases h; exact ok_l42_computed
  · cases h; exact ok_l42_order
  · cases h; exact ok_l42_appended
  · cases h; exact ok_r42_Win
  · cases h; exact ok_r42_Cmp
  · cases h; exact ok_r06_Whole
  · cases h; exact ok_r06_Cmp
  · cases h; exact ok_r06_Num
  · cases h; exact ok_r06_Null
  · cases h; exact ok_r06_Same
  · cases h; exact ok_l42_values
  · cases h; exact ok_r06_Str
  · cases h; exact ok_r06_Bool
  · cases h; exact ok_r03_Ints
  · cases h; exact ok_r06_SameRows
  · cases h; exact ok_window_Compute
  · cases h; exact ok_window_Order
  · cases h; exact ok_window_Append
  · cases h; exact ok_r06_sign
  · cases h; exact ok_r06_Strings
  · cases h; exact ok_r06_CmpList
  · cases h; exact ok_window_table
  · cases h; exact ok_slices_Concat_int
  · cases h; exact ok_window_Compute_1
  · cases h; exact ok_slices_ContainsFunc_Value
  · cases h; exact ok_window_partitions
  · cases h; exact ok_window_sorted
  · cases h; exact ok_window_state_next
  · cases h; exact ok_slices_Clone_Value
  · cases h; exact ok_slices_Grow_int
  · cases h; exact ok_slices_IndexFunc_Value
  · cases h; exact ok_slices_Equal_Value
  · cases h; exact ok_window_picked
  · cases h; exact ok_slices_SortFunc_int
  · cases h; exact ok_window_sorted_1
  · cases h; exact ok_cmp_Or_int
  · cases h; exact ok_value_CmpList
  · cases h; exact ok_cmp_Compare_int
  · cases h; exact ok_window_state_next_1
  · cases h; exact ok_slices_pdqsortCmpFunc_int
  · cases h; exact ok_bits_Len
  · cases h; exact ok_slices_CompareFunc_Value
  · cases h; exact ok_value_Cmp
  · cases h; exact ok_cmp_isNaN_int
  · cases h; exact ok_slices_insertionSortCmpFunc_int
  · cases h; exact ok_slices_heapSortCmpFunc_int
  · cases h; exact ok_slices_breakPatternsCmpFunc_int
  · cases h; exact ok_slices_choosePivotCmpFunc_int
  · cases h; exact ok_slices_reverseRangeCmpFunc_int
  · cases h; exact ok_slices_partialInsertionSortCmpFunc_int
  · cases h; exact ok_slices_partitionEqualCmpFunc_int
  · cases h; exact ok_slices_partitionCmpFunc_int
  · cases h; exact ok_bits_Len32
  · cases h; exact ok_bits_Len64
  · cases h; exact ok_value_first_int
  · cases h; exact ok_cmp_Compare_string
  · cases h; exact ok_slices_siftDownCmpFunc_int
  · cases h; exact ok_slices_nextPowerOfTwo
  · cases h; exact ok_slices_xorshift_Next
  · cases h; exact ok_slices_medianAdjacentCmpFunc_int
  · cases h; exact ok_slices_medianCmpFunc_int
  · cases h; exact ok_cmp_isNaN_string
  · cases h; exact ok_slices_order2CmpFunc_int
  · cases h
end Go.Abs
