/- The printed functions are the program's. -/
import Derived.Test.YtaiibojjndeipaaC20F
import Derived.Test.YtaiibojjndeipaaChecked
import Derived.Test.YtaiibojjndeipaaAbsSound
import Derived.KernelRfl
set_option linter.all false
namespace Go.Abs
open Go
open Go.Proofs
theorem ok_l20_CutLattice : FuncOk Try.prog 4 l20_CutLattice := ⟨_, _, Try.func4, rfl, by kernel_rfl, by kernel_rfl, by kernel_rfl, by kernel_rfl, by kernel_rfl⟩
theorem ok_l20_CutGreatest : FuncOk Try.prog 5 l20_CutGreatest := ⟨_, _, Try.func5, rfl, by kernel_rfl, by kernel_rfl, by kernel_rfl, by kernel_rfl, by kernel_rfl⟩
theorem ok_l20_CutOrder : FuncOk Try.prog 6 l20_CutOrder := ⟨_, _, Try.func6, rfl, by kernel_rfl, by kernel_rfl, by kernel_rfl, by kernel_rfl, by kernel_rfl⟩
theorem ok_l20_CutCausal : FuncOk Try.prog 7 l20_CutCausal := ⟨_, _, Try.func7, rfl, by kernel_rfl, by kernel_rfl, by kernel_rfl, by kernel_rfl, by kernel_rfl⟩
theorem ok_l20_CutClosures : FuncOk Try.prog 8 l20_CutClosures := ⟨_, _, Try.func8, rfl, by kernel_rfl, by kernel_rfl, by kernel_rfl, by kernel_rfl, by kernel_rfl⟩
theorem ok_l20_examples : FuncOk Try.prog 9 l20_examples := ⟨_, _, Try.func9, rfl, by kernel_rfl, by kernel_rfl, by kernel_rfl, by kernel_rfl, by kernel_rfl⟩
theorem ok_l20_short : FuncOk Try.prog 10 l20_short := ⟨_, _, Try.func10, rfl, by kernel_rfl, by kernel_rfl, by kernel_rfl, by kernel_rfl, by kernel_rfl⟩
theorem ok_r20_Headers : FuncOk Try.prog 11 r20_Headers := ⟨_, _, Try.func11, rfl, by kernel_rfl, by kernel_rfl, by kernel_rfl, by kernel_rfl, by kernel_rfl⟩
theorem ok_l20_spoiled : FuncOk Try.prog 12 l20_spoiled := ⟨_, _, Try.func12, rfl, by kernel_rfl, by kernel_rfl, by kernel_rfl, by kernel_rfl, by kernel_rfl⟩
theorem ok_r20_CutOf : FuncOk Try.prog 13 r20_CutOf := ⟨_, _, Try.func13, rfl, by kernel_rfl, by kernel_rfl, by kernel_rfl, by kernel_rfl, by kernel_rfl⟩
theorem ok_r20_Limit : FuncOk Try.prog 14 r20_Limit := ⟨_, _, Try.func14, rfl, by kernel_rfl, by kernel_rfl, by kernel_rfl, by kernel_rfl, by kernel_rfl⟩
theorem ok_r20_All : FuncOk Try.prog 15 r20_All := ⟨_, _, Try.func15, rfl, by kernel_rfl, by kernel_rfl, by kernel_rfl, by kernel_rfl, by kernel_rfl⟩
theorem ok_cut_Valid : FuncOk Try.prog 16 cut_Valid := ⟨_, _, Try.func16, rfl, by kernel_rfl, by kernel_rfl, by kernel_rfl, by kernel_rfl, by kernel_rfl⟩
theorem ok_r20_Valid : FuncOk Try.prog 17 r20_Valid := ⟨_, _, Try.func17, rfl, by kernel_rfl, by kernel_rfl, by kernel_rfl, by kernel_rfl, by kernel_rfl⟩
theorem ok_cut_Leq : FuncOk Try.prog 18 cut_Leq := ⟨_, _, Try.func18, rfl, by kernel_rfl, by kernel_rfl, by kernel_rfl, by kernel_rfl, by kernel_rfl⟩
theorem ok_r20_Leq : FuncOk Try.prog 19 r20_Leq := ⟨_, _, Try.func19, rfl, by kernel_rfl, by kernel_rfl, by kernel_rfl, by kernel_rfl, by kernel_rfl⟩
theorem ok_cut_Has : FuncOk Try.prog 20 cut_Has := ⟨_, _, Try.func20, rfl, by kernel_rfl, by kernel_rfl, by kernel_rfl, by kernel_rfl, by kernel_rfl⟩
theorem ok_r20_Has : FuncOk Try.prog 21 r20_Has := ⟨_, _, Try.func21, rfl, by kernel_rfl, by kernel_rfl, by kernel_rfl, by kernel_rfl, by kernel_rfl⟩
theorem ok_r20_Alike : FuncOk Try.prog 22 r20_Alike := ⟨_, _, Try.func22, rfl, by kernel_rfl, by kernel_rfl, by kernel_rfl, by kernel_rfl, by kernel_rfl⟩
theorem ok_l20_join : FuncOk Try.prog 23 l20_join := ⟨_, _, Try.func23, rfl, by kernel_rfl, by kernel_rfl, by kernel_rfl, by kernel_rfl, by kernel_rfl⟩
theorem ok_r20_JoinIn : FuncOk Try.prog 24 r20_JoinIn := ⟨_, _, Try.func24, rfl, by kernel_rfl, by kernel_rfl, by kernel_rfl, by kernel_rfl, by kernel_rfl⟩
theorem ok_l20_meet : FuncOk Try.prog 25 l20_meet := ⟨_, _, Try.func25, rfl, by kernel_rfl, by kernel_rfl, by kernel_rfl, by kernel_rfl, by kernel_rfl⟩
theorem ok_r20_MeetIn : FuncOk Try.prog 26 r20_MeetIn := ⟨_, _, Try.func26, rfl, by kernel_rfl, by kernel_rfl, by kernel_rfl, by kernel_rfl, by kernel_rfl⟩
theorem ok_cut_Consistent : FuncOk Try.prog 27 cut_Consistent := ⟨_, _, Try.func27, rfl, by kernel_rfl, by kernel_rfl, by kernel_rfl, by kernel_rfl, by kernel_rfl⟩
theorem ok_r20_Consistent : FuncOk Try.prog 28 r20_Consistent := ⟨_, _, Try.func28, rfl, by kernel_rfl, by kernel_rfl, by kernel_rfl, by kernel_rfl, by kernel_rfl⟩
theorem ok_l20_order : FuncOk Try.prog 29 l20_order := ⟨_, _, Try.func29, rfl, by kernel_rfl, by kernel_rfl, by kernel_rfl, by kernel_rfl, by kernel_rfl⟩
theorem ok_r20_OrderIn : FuncOk Try.prog 30 r20_OrderIn := ⟨_, _, Try.func30, rfl, by kernel_rfl, by kernel_rfl, by kernel_rfl, by kernel_rfl, by kernel_rfl⟩
theorem ok_cut_Closed : FuncOk Try.prog 31 cut_Closed := ⟨_, _, Try.func31, rfl, by kernel_rfl, by kernel_rfl, by kernel_rfl, by kernel_rfl, by kernel_rfl⟩
theorem ok_r20_Closed : FuncOk Try.prog 32 r20_Closed := ⟨_, _, Try.func32, rfl, by kernel_rfl, by kernel_rfl, by kernel_rfl, by kernel_rfl, by kernel_rfl⟩
theorem ok_l20_greatest : FuncOk Try.prog 33 l20_greatest := ⟨_, _, Try.func33, rfl, by kernel_rfl, by kernel_rfl, by kernel_rfl, by kernel_rfl, by kernel_rfl⟩
theorem ok_r20_GreatestIn : FuncOk Try.prog 34 r20_GreatestIn := ⟨_, _, Try.func34, rfl, by kernel_rfl, by kernel_rfl, by kernel_rfl, by kernel_rfl, by kernel_rfl⟩
theorem ok_r20_Same : FuncOk Try.prog 35 r20_Same := ⟨_, _, Try.func35, rfl, by kernel_rfl, by kernel_rfl, by kernel_rfl, by kernel_rfl, by kernel_rfl⟩
theorem ok_cut_WellFormed : FuncOk Try.prog 36 cut_WellFormed := ⟨_, _, Try.func36, rfl, by kernel_rfl, by kernel_rfl, by kernel_rfl, by kernel_rfl, by kernel_rfl⟩
theorem ok_r20_WellFormed : FuncOk Try.prog 37 r20_WellFormed := ⟨_, _, Try.func37, rfl, by kernel_rfl, by kernel_rfl, by kernel_rfl, by kernel_rfl, by kernel_rfl⟩
theorem ok_cut_Sees : FuncOk Try.prog 38 cut_Sees := ⟨_, _, Try.func38, rfl, by kernel_rfl, by kernel_rfl, by kernel_rfl, by kernel_rfl, by kernel_rfl⟩
theorem ok_r20_Sees : FuncOk Try.prog 39 r20_Sees := ⟨_, _, Try.func39, rfl, by kernel_rfl, by kernel_rfl, by kernel_rfl, by kernel_rfl, by kernel_rfl⟩
theorem ok_cut_Before : FuncOk Try.prog 40 cut_Before := ⟨_, _, Try.func40, rfl, by kernel_rfl, by kernel_rfl, by kernel_rfl, by kernel_rfl, by kernel_rfl⟩
theorem ok_r20_Before : FuncOk Try.prog 41 r20_Before := ⟨_, _, Try.func41, rfl, by kernel_rfl, by kernel_rfl, by kernel_rfl, by kernel_rfl, by kernel_rfl⟩
theorem ok_l20_closure : FuncOk Try.prog 42 l20_closure := ⟨_, _, Try.func42, rfl, by kernel_rfl, by kernel_rfl, by kernel_rfl, by kernel_rfl, by kernel_rfl⟩
theorem ok_r20_ClosureIn : FuncOk Try.prog 43 r20_ClosureIn := ⟨_, _, Try.func43, rfl, by kernel_rfl, by kernel_rfl, by kernel_rfl, by kernel_rfl, by kernel_rfl⟩
theorem ok_r20_Shuffled : FuncOk Try.prog 44 r20_Shuffled := ⟨_, _, Try.func44, rfl, by kernel_rfl, by kernel_rfl, by kernel_rfl, by kernel_rfl, by kernel_rfl⟩
theorem ok_l20_fits : FuncOk Try.prog 45 l20_fits := ⟨_, _, Try.func45, rfl, by kernel_rfl, by kernel_rfl, by kernel_rfl, by kernel_rfl, by kernel_rfl⟩
theorem ok_r20_SameNames : FuncOk Try.prog 46 r20_SameNames := ⟨_, _, Try.func46, rfl, by kernel_rfl, by kernel_rfl, by kernel_rfl, by kernel_rfl, by kernel_rfl⟩
theorem ok_r20_Names : FuncOk Try.prog 47 r20_Names := ⟨_, _, Try.func47, rfl, by kernel_rfl, by kernel_rfl, by kernel_rfl, by kernel_rfl, by kernel_rfl⟩
theorem ok_l20_chosen : FuncOk Try.prog 48 l20_chosen := ⟨_, _, Try.func48, rfl, by kernel_rfl, by kernel_rfl, by kernel_rfl, by kernel_rfl, by kernel_rfl⟩
theorem ok_r20_Zero : FuncOk Try.prog 49 r20_Zero := ⟨_, _, Try.func49, rfl, by kernel_rfl, by kernel_rfl, by kernel_rfl, by kernel_rfl, by kernel_rfl⟩
theorem ok_r20_Own : FuncOk Try.prog 50 r20_Own := ⟨_, _, Try.func50, rfl, by kernel_rfl, by kernel_rfl, by kernel_rfl, by kernel_rfl, by kernel_rfl⟩
theorem ok_slices_ContainsFunc_int : FuncOk Try.prog 51 slices_ContainsFunc_int := ⟨_, _, Try.func51, rfl, by kernel_rfl, by kernel_rfl, by kernel_rfl, by kernel_rfl, by kernel_rfl⟩
theorem ok_cut_Valid_1 : FuncOk Try.prog 52 cut_Valid_1 := ⟨_, _, Try.func52, rfl, by kernel_rfl, by kernel_rfl, by kernel_rfl, by kernel_rfl, by kernel_rfl⟩
theorem ok_cut_Join : FuncOk Try.prog 53 cut_Join := ⟨_, _, Try.func53, rfl, by kernel_rfl, by kernel_rfl, by kernel_rfl, by kernel_rfl, by kernel_rfl⟩
theorem ok_cut_Meet : FuncOk Try.prog 54 cut_Meet := ⟨_, _, Try.func54, rfl, by kernel_rfl, by kernel_rfl, by kernel_rfl, by kernel_rfl, by kernel_rfl⟩
theorem ok_cut_indices : FuncOk Try.prog 55 cut_indices := ⟨_, _, Try.func55, rfl, by kernel_rfl, by kernel_rfl, by kernel_rfl, by kernel_rfl, by kernel_rfl⟩
theorem ok_slices_ContainsFunc_Commit : FuncOk Try.prog 56 slices_ContainsFunc_Commit := ⟨_, _, Try.func56, rfl, by kernel_rfl, by kernel_rfl, by kernel_rfl, by kernel_rfl, by kernel_rfl⟩
theorem ok_cut_Consistent_1 : FuncOk Try.prog 57 cut_Consistent_1 := ⟨_, _, Try.func57, rfl, by kernel_rfl, by kernel_rfl, by kernel_rfl, by kernel_rfl, by kernel_rfl⟩
theorem ok_r20_Find : FuncOk Try.prog 58 r20_Find := ⟨_, _, Try.func58, rfl, by kernel_rfl, by kernel_rfl, by kernel_rfl, by kernel_rfl, by kernel_rfl⟩
theorem ok_r20_known : FuncOk Try.prog 59 r20_known := ⟨_, _, Try.func59, rfl, by kernel_rfl, by kernel_rfl, by kernel_rfl, by kernel_rfl, by kernel_rfl⟩
theorem ok_cut_Order : FuncOk Try.prog 60 cut_Order := ⟨_, _, Try.func60, rfl, by kernel_rfl, by kernel_rfl, by kernel_rfl, by kernel_rfl, by kernel_rfl⟩
theorem ok_slices_Clone_int : FuncOk Try.prog 61 slices_Clone_int := ⟨_, _, Try.func61, rfl, by kernel_rfl, by kernel_rfl, by kernel_rfl, by kernel_rfl, by kernel_rfl⟩
theorem ok_cut_reach : FuncOk Try.prog 62 cut_reach := ⟨_, _, Try.func62, rfl, by kernel_rfl, by kernel_rfl, by kernel_rfl, by kernel_rfl, by kernel_rfl⟩
theorem ok_slices_Equal_int : FuncOk Try.prog 63 slices_Equal_int := ⟨_, _, Try.func63, rfl, by kernel_rfl, by kernel_rfl, by kernel_rfl, by kernel_rfl, by kernel_rfl⟩
theorem ok_r20_fits : FuncOk Try.prog 64 r20_fits := ⟨_, _, Try.func64, rfl, by kernel_rfl, by kernel_rfl, by kernel_rfl, by kernel_rfl, by kernel_rfl⟩
theorem ok_cut_Greatest : FuncOk Try.prog 65 cut_Greatest := ⟨_, _, Try.func65, rfl, by kernel_rfl, by kernel_rfl, by kernel_rfl, by kernel_rfl, by kernel_rfl⟩
theorem ok_cut_compare : FuncOk Try.prog 66 cut_compare := ⟨_, _, Try.func66, rfl, by kernel_rfl, by kernel_rfl, by kernel_rfl, by kernel_rfl, by kernel_rfl⟩
theorem ok_r20_Weight : FuncOk Try.prog 67 r20_Weight := ⟨_, _, Try.func67, rfl, by kernel_rfl, by kernel_rfl, by kernel_rfl, by kernel_rfl, by kernel_rfl⟩
theorem ok_cut_Closure : FuncOk Try.prog 68 cut_Closure := ⟨_, _, Try.func68, rfl, by kernel_rfl, by kernel_rfl, by kernel_rfl, by kernel_rfl, by kernel_rfl⟩
theorem ok_slices_IndexFunc_int : FuncOk Try.prog 69 slices_IndexFunc_int := ⟨_, _, Try.func69, rfl, by kernel_rfl, by kernel_rfl, by kernel_rfl, by kernel_rfl, by kernel_rfl⟩
theorem ok_cut_merge : FuncOk Try.prog 70 cut_merge := ⟨_, _, Try.func70, rfl, by kernel_rfl, by kernel_rfl, by kernel_rfl, by kernel_rfl, by kernel_rfl⟩
theorem ok_cut_Join_1 : FuncOk Try.prog 71 cut_Join_1 := ⟨_, _, Try.func71, rfl, by kernel_rfl, by kernel_rfl, by kernel_rfl, by kernel_rfl, by kernel_rfl⟩
theorem ok_cut_Meet_1 : FuncOk Try.prog 72 cut_Meet_1 := ⟨_, _, Try.func72, rfl, by kernel_rfl, by kernel_rfl, by kernel_rfl, by kernel_rfl, by kernel_rfl⟩
theorem ok_slices_IndexFunc_Commit : FuncOk Try.prog 73 slices_IndexFunc_Commit := ⟨_, _, Try.func73, rfl, by kernel_rfl, by kernel_rfl, by kernel_rfl, by kernel_rfl, by kernel_rfl⟩
theorem ok_slices_SortFunc_int : FuncOk Try.prog 74 slices_SortFunc_int := ⟨_, _, Try.func74, rfl, by kernel_rfl, by kernel_rfl, by kernel_rfl, by kernel_rfl, by kernel_rfl⟩
theorem ok_cut_Order_1 : FuncOk Try.prog 75 cut_Order_1 := ⟨_, _, Try.func75, rfl, by kernel_rfl, by kernel_rfl, by kernel_rfl, by kernel_rfl, by kernel_rfl⟩
theorem ok_cmp_Or_int : FuncOk Try.prog 76 cmp_Or_int := ⟨_, _, Try.func76, rfl, by kernel_rfl, by kernel_rfl, by kernel_rfl, by kernel_rfl, by kernel_rfl⟩
theorem ok_cmp_Compare_int : FuncOk Try.prog 77 cmp_Compare_int := ⟨_, _, Try.func77, rfl, by kernel_rfl, by kernel_rfl, by kernel_rfl, by kernel_rfl, by kernel_rfl⟩
theorem ok_cut_weight : FuncOk Try.prog 78 cut_weight := ⟨_, _, Try.func78, rfl, by kernel_rfl, by kernel_rfl, by kernel_rfl, by kernel_rfl, by kernel_rfl⟩
theorem ok_cut_Closure_1 : FuncOk Try.prog 79 cut_Closure_1 := ⟨_, _, Try.func79, rfl, by kernel_rfl, by kernel_rfl, by kernel_rfl, by kernel_rfl, by kernel_rfl⟩
theorem ok_slices_pdqsortCmpFunc_int : FuncOk Try.prog 80 slices_pdqsortCmpFunc_int := ⟨_, _, Try.func80, rfl, by kernel_rfl, by kernel_rfl, by kernel_rfl, by kernel_rfl, by kernel_rfl⟩
theorem ok_bits_Len : FuncOk Try.prog 81 bits_Len := ⟨_, _, Try.func81, rfl, by kernel_rfl, by kernel_rfl, by kernel_rfl, by kernel_rfl, by kernel_rfl⟩
theorem ok_cmp_isNaN_int : FuncOk Try.prog 82 cmp_isNaN_int := ⟨_, _, Try.func82, rfl, by kernel_rfl, by kernel_rfl, by kernel_rfl, by kernel_rfl, by kernel_rfl⟩
theorem ok_slices_insertionSortCmpFunc_int : FuncOk Try.prog 83 slices_insertionSortCmpFunc_int := ⟨_, _, Try.func83, rfl, by kernel_rfl, by kernel_rfl, by kernel_rfl, by kernel_rfl, by kernel_rfl⟩
theorem ok_bits_Len64 : FuncOk Try.prog 92 bits_Len64 := ⟨_, _, Try.func92, rfl, by kernel_rfl, by kernel_rfl, by kernel_rfl, by kernel_rfl, by kernel_rfl⟩
theorem T_ok : ∀ f af, T f = some af → FuncOk Try.prog f af := by
  intro f af h
  unfold T at h
  split at h
  · cases h; exact ok_l20_CutLattice
  · cases h; exact ok_l20_CutGreatest
  · cases h; exact ok_l20_CutOrder
  · cases h; exact ok_l20_CutCausal
  · cases h; exact ok_l20_CutClosures
  · cases h; exact ok_l20_examples
  · cases h; exact ok_l20_short
  · cases h; exact ok_r20_Headers
  · cases h; exact ok_l20_spoiled
  · cases h; exact ok_r20_CutOf
  · cases h; exact ok_r20_Limit
  · cases h; exact ok_r20_All
  · cases h; exact ok_cut_Valid
  · cases h; exact ok_r20_Valid
  · cases h; exact ok_cut_Leq
  · cases h; exact ok_r20_Leq
  · cases h; exact ok_cut_Has
  · cases h; exact ok_r20_Has
  · cases h; exact ok_r20_Alike
  · cases h; exact ok_l20_join
  · cases h; exact ok_r20_JoinIn
  · cases h; exact ok_l20_meet
  · cases h; exact ok_r20_MeetIn
  · cases h; exact ok_cut_Consistent
  · cases h; exact ok_r20_Consistent
  · cases h; exact ok_l20_order
  · cases h; exact ok_r20_OrderIn
  · cases h; exact ok_cut_Closed
  · cases h; exact ok_r20_Closed
  · cases h; exact ok_l20_greatest
  · cases h; exact ok_r20_GreatestIn
  · cases h; exact ok_r20_Same
  · cases h; exact ok_cut_WellFormed
  · cases h; exact ok_r20_WellFormed
  · cases h; exact ok_cut_Sees
  · cases h; exact ok_r20_Sees
  · cases h; exact ok_cut_Before
  · cases h; exact ok_r20_Before
  · cases h; exact ok_l20_closure
  · cases h; exact ok_r20_ClosureIn
  · cases h; exact ok_r20_Shuffled
  · cases h; exact ok_l20_fits
  · cases h; exact ok_r20_SameNames
  · cases h; exact ok_r20_Names
  · cases h; exact ok_l20_chosen
  · cases h; exact ok_r20_Zero
  · cases h; exact ok_r20_Own
  · cases h; exact ok_slices_ContainsFunc_int
  · cases h; exact ok_cut_Valid_1
  · cases h; exact ok_cut_Join
  · cases h; exact ok_cut_Meet
  · cases h; exact ok_cut_indices
  · cases h; exact ok_slices_ContainsFunc_Commit
  · cases h; exact ok_cut_Consistent_1
  · cases h; exact ok_r20_Find
  · cases h; exact ok_r20_known
  · cases h; exact ok_cut_Order
  · cases h; exact ok_slices_Clone_int
  · cases h; exact ok_cut_reach
  · cases h; exact ok_slices_Equal_int
  · cases h; exact ok_r20_fits
  · cases h; exact ok_cut_Greatest
  · cases h; exact ok_cut_compare
  · cases h; exact ok_r20_Weight
  · cases h; exact ok_cut_Closure
  · cases h; exact ok_slices_IndexFunc_int
  · cases h; exact ok_cut_merge
  · cases h; exact ok_cut_Join_1
  · cases h; exact ok_cut_Meet_1
  · cases h; exact ok_slices_IndexFunc_Commit
  · cases h; exact ok_slices_SortFunc_int
  · cases h; exact ok_cut_Order_1
  · cases h; exact ok_cmp_Or_int
  · cases h; exact ok_cmp_Compare_int
  · cases h; exact ok_cut_weight
  · cases h; exact ok_cut_Closure_1
  · cases h; exact ok_slices_pdqsortCmpFunc_int
  · cases h; exact ok_bits_Len
  · cases h; exact ok_cmp_isNaN_int
  · cases h; exact ok_slices_insertionSortCmpFunc_int
  · cases h; exact ok_bits_Len64
  · cases h
end Go.Abs
