/- The printed functions are the program's. -/
import Derived.Test.YtmdkgkhddjhdoaaDoorC23F
import Derived.Test.YtmdkgkhddjhdoaaDoorChecked
import Derived.Test.YtmdkgkhddjhdoaaDoorAbsSound
import Derived.KernelRfl
set_option linter.all false
namespace Go.Abs
open Go
open Go.Proofs
instance : Inhabited Glob := ⟨⟨fun g => if g = 0 then some (.fmap [.int .i64 5, .int .i64 6] [.clo (.func i_escrow_stock_take) [] [], .clo (.func i_escrow_stock_grant) [] []]) else none⟩⟩
theorem ok_l23_EscrowIndependence : FuncOk Tryd.prog 5 l23_EscrowIndependence := ⟨_, _, Tryd.func5, rfl, by kernel_rfl, by kernel_rfl, by kernel_rfl, by kernel_rfl, by kernel_rfl⟩
theorem ok_l23_EscrowPromises : FuncOk Tryd.prog 8 l23_EscrowPromises := ⟨_, _, Tryd.func8, rfl, by kernel_rfl, by kernel_rfl, by kernel_rfl, by kernel_rfl, by kernel_rfl⟩
theorem ok_l23_examples : FuncOk Tryd.prog 9 l23_examples := ⟨_, _, Tryd.func9, rfl, by kernel_rfl, by kernel_rfl, by kernel_rfl, by kernel_rfl, by kernel_rfl⟩
theorem ok_l23_short : FuncOk Tryd.prog 10 l23_short := ⟨_, _, Tryd.func10, rfl, by kernel_rfl, by kernel_rfl, by kernel_rfl, by kernel_rfl, by kernel_rfl⟩
theorem ok_r23_With : FuncOk Tryd.prog 11 r23_With := ⟨_, _, Tryd.func11, rfl, by kernel_rfl, by kernel_rfl, by kernel_rfl, by kernel_rfl, by kernel_rfl⟩
theorem ok_r20_Headers : FuncOk Tryd.prog 12 r20_Headers := ⟨_, _, Tryd.func12, rfl, by kernel_rfl, by kernel_rfl, by kernel_rfl, by kernel_rfl, by kernel_rfl⟩
theorem ok_r23_Shares : FuncOk Tryd.prog 13 r23_Shares := ⟨_, _, Tryd.func13, rfl, by kernel_rfl, by kernel_rfl, by kernel_rfl, by kernel_rfl, by kernel_rfl⟩
theorem ok_r23_Alike : FuncOk Tryd.prog 14 r23_Alike := ⟨_, _, Tryd.func14, rfl, by kernel_rfl, by kernel_rfl, by kernel_rfl, by kernel_rfl, by kernel_rfl⟩
theorem ok_l23_created : FuncOk Tryd.prog 15 l23_created := ⟨_, _, Tryd.func15, rfl, by kernel_rfl, by kernel_rfl, by kernel_rfl, by kernel_rfl, by kernel_rfl⟩
theorem ok_escrow_Valid : FuncOk Tryd.prog 17 escrow_Valid := ⟨_, _, Tryd.func17, rfl, by kernel_rfl, by kernel_rfl, by kernel_rfl, by kernel_rfl, by kernel_rfl⟩
theorem ok_r23_Valid : FuncOk Tryd.prog 18 r23_Valid := ⟨_, _, Tryd.func18, rfl, by kernel_rfl, by kernel_rfl, by kernel_rfl, by kernel_rfl, by kernel_rfl⟩
theorem ok_escrow_Total : FuncOk Tryd.prog 19 escrow_Total := ⟨_, _, Tryd.func19, rfl, by kernel_rfl, by kernel_rfl, by kernel_rfl, by kernel_rfl, by kernel_rfl⟩
theorem ok_l23_taken : FuncOk Tryd.prog 21 l23_taken := ⟨_, _, Tryd.func21, rfl, by kernel_rfl, by kernel_rfl, by kernel_rfl, by kernel_rfl, by kernel_rfl⟩
theorem ok_l23_granted : FuncOk Tryd.prog 23 l23_granted := ⟨_, _, Tryd.func23, rfl, by kernel_rfl, by kernel_rfl, by kernel_rfl, by kernel_rfl, by kernel_rfl⟩
theorem ok_r23_Same : FuncOk Tryd.prog 25 r23_Same := ⟨_, _, Tryd.func25, rfl, by kernel_rfl, by kernel_rfl, by kernel_rfl, by kernel_rfl, by kernel_rfl⟩
theorem ok_l23_played : FuncOk Tryd.prog 26 l23_played := ⟨_, _, Tryd.func26, rfl, by kernel_rfl, by kernel_rfl, by kernel_rfl, by kernel_rfl, by kernel_rfl⟩
theorem ok_l23_did : FuncOk Tryd.prog 28 l23_did := ⟨_, _, Tryd.func28, rfl, by kernel_rfl, by kernel_rfl, by kernel_rfl, by kernel_rfl, by kernel_rfl⟩
theorem ok_escrow_Covered : FuncOk Tryd.prog 30 escrow_Covered := ⟨_, _, Tryd.func30, rfl, by kernel_rfl, by kernel_rfl, by kernel_rfl, by kernel_rfl, by kernel_rfl⟩
theorem ok_l23_commit : FuncOk Tryd.prog 32 l23_commit := ⟨_, _, Tryd.func32, rfl, by kernel_rfl, by kernel_rfl, by kernel_rfl, by kernel_rfl, by kernel_rfl⟩
theorem ok_r20_Same : FuncOk Tryd.prog 33 r20_Same := ⟨_, _, Tryd.func33, rfl, by kernel_rfl, by kernel_rfl, by kernel_rfl, by kernel_rfl, by kernel_rfl⟩
theorem ok_l23_kept : FuncOk Tryd.prog 34 l23_kept := ⟨_, _, Tryd.func34, rfl, by kernel_rfl, by kernel_rfl, by kernel_rfl, by kernel_rfl, by kernel_rfl⟩
theorem ok_r20_CutOf : FuncOk Tryd.prog 35 r20_CutOf := ⟨_, _, Tryd.func35, rfl, by kernel_rfl, by kernel_rfl, by kernel_rfl, by kernel_rfl, by kernel_rfl⟩
theorem ok_cut_Order : FuncOk Tryd.prog 36 cut_Order := ⟨_, _, Tryd.func36, rfl, by kernel_rfl, by kernel_rfl, by kernel_rfl, by kernel_rfl, by kernel_rfl⟩
theorem ok_cut_Has : FuncOk Tryd.prog 37 cut_Has := ⟨_, _, Tryd.func37, rfl, by kernel_rfl, by kernel_rfl, by kernel_rfl, by kernel_rfl, by kernel_rfl⟩
theorem ok_l23_causal : FuncOk Tryd.prog 38 l23_causal := ⟨_, _, Tryd.func38, rfl, by kernel_rfl, by kernel_rfl, by kernel_rfl, by kernel_rfl, by kernel_rfl⟩
theorem ok_l23_all : FuncOk Tryd.prog 39 l23_all := ⟨_, _, Tryd.func39, rfl, by kernel_rfl, by kernel_rfl, by kernel_rfl, by kernel_rfl, by kernel_rfl⟩
theorem ok_r20_Zero : FuncOk Tryd.prog 40 r20_Zero := ⟨_, _, Tryd.func40, rfl, by kernel_rfl, by kernel_rfl, by kernel_rfl, by kernel_rfl, by kernel_rfl⟩
theorem ok_l23_take : FuncOk Tryd.prog 41 l23_take := ⟨_, _, Tryd.func41, rfl, by kernel_rfl, by kernel_rfl, by kernel_rfl, by kernel_rfl, by kernel_rfl⟩
theorem ok_r23_Op : FuncOk Tryd.prog 42 r23_Op := ⟨_, _, Tryd.func42, rfl, by kernel_rfl, by kernel_rfl, by kernel_rfl, by kernel_rfl, by kernel_rfl⟩
theorem ok_r20_JoinIn : FuncOk Tryd.prog 43 r20_JoinIn := ⟨_, _, Tryd.func43, rfl, by kernel_rfl, by kernel_rfl, by kernel_rfl, by kernel_rfl, by kernel_rfl⟩
theorem ok_r20_Own : FuncOk Tryd.prog 44 r20_Own := ⟨_, _, Tryd.func44, rfl, by kernel_rfl, by kernel_rfl, by kernel_rfl, by kernel_rfl, by kernel_rfl⟩
theorem ok_escrow_New : FuncOk Tryd.prog 45 escrow_New := ⟨_, _, Tryd.func45, rfl, by kernel_rfl, by kernel_rfl, by kernel_rfl, by kernel_rfl, by kernel_rfl⟩
theorem ok_escrow_Take : FuncOk Tryd.prog 47 escrow_Take := ⟨_, _, Tryd.func47, rfl, by kernel_rfl, by kernel_rfl, by kernel_rfl, by kernel_rfl, by kernel_rfl⟩
theorem ok_escrow_Grant : FuncOk Tryd.prog 49 escrow_Grant := ⟨_, _, Tryd.func49, rfl, by kernel_rfl, by kernel_rfl, by kernel_rfl, by kernel_rfl, by kernel_rfl⟩
theorem ok_escrow_Play : FuncOk Tryd.prog 50 escrow_Play := ⟨_, _, Tryd.func50, rfl, by kernel_rfl, by kernel_rfl, by kernel_rfl, by kernel_rfl, by kernel_rfl⟩
theorem ok_escrow_Do : FuncOk Tryd.prog 51 escrow_Do := ⟨_, _, Tryd.func51, rfl, by kernel_rfl, by kernel_rfl, by kernel_rfl, by kernel_rfl, by kernel_rfl⟩
theorem ok_slices_DeleteFunc_Commit : FuncOk Tryd.prog 52 slices_DeleteFunc_Commit := ⟨_, _, Tryd.func52, rfl, by kernel_rfl, by kernel_rfl, by kernel_rfl, by kernel_rfl, by kernel_rfl⟩
theorem ok_slices_Clone_Commit : FuncOk Tryd.prog 53 slices_Clone_Commit := ⟨_, _, Tryd.func53, rfl, by kernel_rfl, by kernel_rfl, by kernel_rfl, by kernel_rfl, by kernel_rfl⟩
theorem ok_escrow_Covered_1 : FuncOk Tryd.prog 54 escrow_Covered_1 := ⟨_, _, Tryd.func54, rfl, by kernel_rfl, by kernel_rfl, by kernel_rfl, by kernel_rfl, by kernel_rfl⟩
theorem ok_cut_Sees : FuncOk Tryd.prog 55 cut_Sees := ⟨_, _, Tryd.func55, rfl, by kernel_rfl, by kernel_rfl, by kernel_rfl, by kernel_rfl, by kernel_rfl⟩
theorem ok_slices_SortStableFunc_Commit : FuncOk Tryd.prog 56 slices_SortStableFunc_Commit := ⟨_, _, Tryd.func56, rfl, by kernel_rfl, by kernel_rfl, by kernel_rfl, by kernel_rfl, by kernel_rfl⟩
theorem ok_escrow_Covered_2 : FuncOk Tryd.prog 57 escrow_Covered_2 := ⟨_, _, Tryd.func57, rfl, by kernel_rfl, by kernel_rfl, by kernel_rfl, by kernel_rfl, by kernel_rfl⟩
theorem ok_cut_Before : FuncOk Tryd.prog 58 cut_Before := ⟨_, _, Tryd.func58, rfl, by kernel_rfl, by kernel_rfl, by kernel_rfl, by kernel_rfl, by kernel_rfl⟩
theorem ok_r20_GreatestIn : FuncOk Tryd.prog 60 r20_GreatestIn := ⟨_, _, Tryd.func60, rfl, by kernel_rfl, by kernel_rfl, by kernel_rfl, by kernel_rfl, by kernel_rfl⟩
theorem ok_r20_All : FuncOk Tryd.prog 61 r20_All := ⟨_, _, Tryd.func61, rfl, by kernel_rfl, by kernel_rfl, by kernel_rfl, by kernel_rfl, by kernel_rfl⟩
theorem ok_r20_Limit : FuncOk Tryd.prog 62 r20_Limit := ⟨_, _, Tryd.func62, rfl, by kernel_rfl, by kernel_rfl, by kernel_rfl, by kernel_rfl, by kernel_rfl⟩
theorem ok_cut_Closed : FuncOk Tryd.prog 63 cut_Closed := ⟨_, _, Tryd.func63, rfl, by kernel_rfl, by kernel_rfl, by kernel_rfl, by kernel_rfl, by kernel_rfl⟩
theorem ok_cut_indices : FuncOk Tryd.prog 64 cut_indices := ⟨_, _, Tryd.func64, rfl, by kernel_rfl, by kernel_rfl, by kernel_rfl, by kernel_rfl, by kernel_rfl⟩
theorem ok_slices_SortFunc_int : FuncOk Tryd.prog 65 slices_SortFunc_int := ⟨_, _, Tryd.func65, rfl, by kernel_rfl, by kernel_rfl, by kernel_rfl, by kernel_rfl, by kernel_rfl⟩
theorem ok_cut_Order_1 : FuncOk Tryd.prog 66 cut_Order_1 := ⟨_, _, Tryd.func66, rfl, by kernel_rfl, by kernel_rfl, by kernel_rfl, by kernel_rfl, by kernel_rfl⟩
theorem ok_cut_compare : FuncOk Tryd.prog 67 cut_compare := ⟨_, _, Tryd.func67, rfl, by kernel_rfl, by kernel_rfl, by kernel_rfl, by kernel_rfl, by kernel_rfl⟩
theorem ok_cut_Valid : FuncOk Tryd.prog 68 cut_Valid := ⟨_, _, Tryd.func68, rfl, by kernel_rfl, by kernel_rfl, by kernel_rfl, by kernel_rfl, by kernel_rfl⟩
theorem ok_r20_Sees : FuncOk Tryd.prog 69 r20_Sees := ⟨_, _, Tryd.func69, rfl, by kernel_rfl, by kernel_rfl, by kernel_rfl, by kernel_rfl, by kernel_rfl⟩
theorem ok_r20_Valid : FuncOk Tryd.prog 70 r20_Valid := ⟨_, _, Tryd.func70, rfl, by kernel_rfl, by kernel_rfl, by kernel_rfl, by kernel_rfl, by kernel_rfl⟩
theorem ok_escrow_station : FuncOk Tryd.prog 71 escrow_station := ⟨_, _, Tryd.func71, rfl, by kernel_rfl, by kernel_rfl, by kernel_rfl, by kernel_rfl, by kernel_rfl⟩
theorem ok_escrow_try : FuncOk Tryd.prog 72 escrow_try := ⟨_, _, Tryd.func72, rfl, by kernel_rfl, by kernel_rfl, by kernel_rfl, by kernel_rfl, by kernel_rfl⟩
theorem ok_escrow_Take_1 : FuncOk Tryd.prog 73 escrow_Take_1 := ⟨_, _, Tryd.func73, rfl, by kernel_rfl, by kernel_rfl, by kernel_rfl, by kernel_rfl, by kernel_rfl⟩
theorem ok_escrow_stock_take : FuncOk Tryd.prog 74 escrow_stock_take := ⟨_, _, Tryd.func74, rfl, by kernel_rfl, by kernel_rfl, by kernel_rfl, by kernel_rfl, by kernel_rfl⟩
theorem ok_escrow_Grant_1 : FuncOk Tryd.prog 75 escrow_Grant_1 := ⟨_, _, Tryd.func75, rfl, by kernel_rfl, by kernel_rfl, by kernel_rfl, by kernel_rfl, by kernel_rfl⟩
theorem ok_escrow_stock_grant : FuncOk Tryd.prog 76 escrow_stock_grant := ⟨_, _, Tryd.func76, rfl, by kernel_rfl, by kernel_rfl, by kernel_rfl, by kernel_rfl, by kernel_rfl⟩
theorem ok_slices_Clone_int : FuncOk Tryd.prog 77 slices_Clone_int := ⟨_, _, Tryd.func77, rfl, by kernel_rfl, by kernel_rfl, by kernel_rfl, by kernel_rfl, by kernel_rfl⟩
theorem ok_escrow_Do_1 : FuncOk Tryd.prog 78 escrow_Do_1 := ⟨_, _, Tryd.func78, rfl, by kernel_rfl, by kernel_rfl, by kernel_rfl, by kernel_rfl, by kernel_rfl⟩
theorem ok_slices_IndexFunc_Commit : FuncOk Tryd.prog 79 slices_IndexFunc_Commit := ⟨_, _, Tryd.func79, rfl, by kernel_rfl, by kernel_rfl, by kernel_rfl, by kernel_rfl, by kernel_rfl⟩
theorem ok_cut_WellFormed : FuncOk Tryd.prog 80 cut_WellFormed := ⟨_, _, Tryd.func80, rfl, by kernel_rfl, by kernel_rfl, by kernel_rfl, by kernel_rfl, by kernel_rfl⟩
theorem ok_slices_stableCmpFunc_Commit : FuncOk Tryd.prog 81 slices_stableCmpFunc_Commit := ⟨_, _, Tryd.func81, rfl, by kernel_rfl, by kernel_rfl, by kernel_rfl, by kernel_rfl, by kernel_rfl⟩
theorem ok_r20_Before : FuncOk Tryd.prog 82 r20_Before := ⟨_, _, Tryd.func82, rfl, by kernel_rfl, by kernel_rfl, by kernel_rfl, by kernel_rfl, by kernel_rfl⟩
theorem ok_r20_Closed : FuncOk Tryd.prog 83 r20_Closed := ⟨_, _, Tryd.func83, rfl, by kernel_rfl, by kernel_rfl, by kernel_rfl, by kernel_rfl, by kernel_rfl⟩
theorem ok_r20_fits : FuncOk Tryd.prog 84 r20_fits := ⟨_, _, Tryd.func84, rfl, by kernel_rfl, by kernel_rfl, by kernel_rfl, by kernel_rfl, by kernel_rfl⟩
theorem ok_cut_reach : FuncOk Tryd.prog 85 cut_reach := ⟨_, _, Tryd.func85, rfl, by kernel_rfl, by kernel_rfl, by kernel_rfl, by kernel_rfl, by kernel_rfl⟩
theorem ok_slices_Equal_int : FuncOk Tryd.prog 86 slices_Equal_int := ⟨_, _, Tryd.func86, rfl, by kernel_rfl, by kernel_rfl, by kernel_rfl, by kernel_rfl, by kernel_rfl⟩
theorem ok_slices_pdqsortCmpFunc_int : FuncOk Tryd.prog 87 slices_pdqsortCmpFunc_int := ⟨_, _, Tryd.func87, rfl, by kernel_rfl, by kernel_rfl, by kernel_rfl, by kernel_rfl, by kernel_rfl⟩
theorem ok_bits_Len : FuncOk Tryd.prog 88 bits_Len := ⟨_, _, Tryd.func88, rfl, by kernel_rfl, by kernel_rfl, by kernel_rfl, by kernel_rfl, by kernel_rfl⟩
theorem ok_cmp_Or_int : FuncOk Tryd.prog 89 cmp_Or_int := ⟨_, _, Tryd.func89, rfl, by kernel_rfl, by kernel_rfl, by kernel_rfl, by kernel_rfl, by kernel_rfl⟩
theorem ok_cmp_Compare_int : FuncOk Tryd.prog 90 cmp_Compare_int := ⟨_, _, Tryd.func90, rfl, by kernel_rfl, by kernel_rfl, by kernel_rfl, by kernel_rfl, by kernel_rfl⟩
theorem ok_cut_weight : FuncOk Tryd.prog 91 cut_weight := ⟨_, _, Tryd.func91, rfl, by kernel_rfl, by kernel_rfl, by kernel_rfl, by kernel_rfl, by kernel_rfl⟩
theorem ok_slices_ContainsFunc_int : FuncOk Tryd.prog 92 slices_ContainsFunc_int := ⟨_, _, Tryd.func92, rfl, by kernel_rfl, by kernel_rfl, by kernel_rfl, by kernel_rfl, by kernel_rfl⟩
theorem ok_cut_Valid_1 : FuncOk Tryd.prog 93 cut_Valid_1 := ⟨_, _, Tryd.func93, rfl, by kernel_rfl, by kernel_rfl, by kernel_rfl, by kernel_rfl, by kernel_rfl⟩
theorem ok_r20_WellFormed : FuncOk Tryd.prog 94 r20_WellFormed := ⟨_, _, Tryd.func94, rfl, by kernel_rfl, by kernel_rfl, by kernel_rfl, by kernel_rfl, by kernel_rfl⟩
theorem ok_slices_insertionSortCmpFunc_Commit : FuncOk Tryd.prog 95 slices_insertionSortCmpFunc_Commit := ⟨_, _, Tryd.func95, rfl, by kernel_rfl, by kernel_rfl, by kernel_rfl, by kernel_rfl, by kernel_rfl⟩
theorem ok_r20_Weight : FuncOk Tryd.prog 97 r20_Weight := ⟨_, _, Tryd.func97, rfl, by kernel_rfl, by kernel_rfl, by kernel_rfl, by kernel_rfl, by kernel_rfl⟩
theorem ok_r20_Find : FuncOk Tryd.prog 98 r20_Find := ⟨_, _, Tryd.func98, rfl, by kernel_rfl, by kernel_rfl, by kernel_rfl, by kernel_rfl, by kernel_rfl⟩
theorem ok_r20_Leq : FuncOk Tryd.prog 99 r20_Leq := ⟨_, _, Tryd.func99, rfl, by kernel_rfl, by kernel_rfl, by kernel_rfl, by kernel_rfl, by kernel_rfl⟩
theorem ok_cut_Leq : FuncOk Tryd.prog 100 cut_Leq := ⟨_, _, Tryd.func100, rfl, by kernel_rfl, by kernel_rfl, by kernel_rfl, by kernel_rfl, by kernel_rfl⟩
theorem ok_slices_insertionSortCmpFunc_int : FuncOk Tryd.prog 101 slices_insertionSortCmpFunc_int := ⟨_, _, Tryd.func101, rfl, by kernel_rfl, by kernel_rfl, by kernel_rfl, by kernel_rfl, by kernel_rfl⟩
theorem ok_bits_Len32 : FuncOk Tryd.prog 109 bits_Len32 := ⟨_, _, Tryd.func109, rfl, by kernel_rfl, by kernel_rfl, by kernel_rfl, by kernel_rfl, by kernel_rfl⟩
theorem ok_bits_Len64 : FuncOk Tryd.prog 110 bits_Len64 := ⟨_, _, Tryd.func110, rfl, by kernel_rfl, by kernel_rfl, by kernel_rfl, by kernel_rfl, by kernel_rfl⟩
theorem ok_cmp_isNaN_int : FuncOk Tryd.prog 111 cmp_isNaN_int := ⟨_, _, Tryd.func111, rfl, by kernel_rfl, by kernel_rfl, by kernel_rfl, by kernel_rfl, by kernel_rfl⟩
theorem ok_slices_IndexFunc_int : FuncOk Tryd.prog 112 slices_IndexFunc_int := ⟨_, _, Tryd.func112, rfl, by kernel_rfl, by kernel_rfl, by kernel_rfl, by kernel_rfl, by kernel_rfl⟩
theorem T_ok : ∀ f af, T f = some af → FuncOk Tryd.prog f af := by
  intro f af h
  unfold T at h
  split at h
  · cases h; exact ok_l23_EscrowIndependence
  · cases h; exact ok_l23_EscrowPromises
  · cases h; exact ok_l23_examples
  · cases h; exact ok_l23_short
  · cases h; exact ok_r23_With
  · cases h; exact ok_r20_Headers
  · cases h; exact ok_r23_Shares
  · cases h; exact ok_r23_Alike
  · cases h; exact ok_l23_created
  · cases h; exact ok_escrow_Valid
  · cases h; exact ok_r23_Valid
  · cases h; exact ok_escrow_Total
  · cases h; exact ok_l23_taken
  · cases h; exact ok_l23_granted
  · cases h; exact ok_r23_Same
  · cases h; exact ok_l23_played
  · cases h; exact ok_l23_did
  · cases h; exact ok_escrow_Covered
  · cases h; exact ok_l23_commit
  · cases h; exact ok_r20_Same
  · cases h; exact ok_l23_kept
  · cases h; exact ok_r20_CutOf
  · cases h; exact ok_cut_Order
  · cases h; exact ok_cut_Has
  · cases h; exact ok_l23_causal
  · cases h; exact ok_l23_all
  · cases h; exact ok_r20_Zero
  · cases h; exact ok_l23_take
  · cases h; exact ok_r23_Op
  · cases h; exact ok_r20_JoinIn
  · cases h; exact ok_r20_Own
  · cases h; exact ok_escrow_New
  · cases h; exact ok_escrow_Take
  · cases h; exact ok_escrow_Grant
  · cases h; exact ok_escrow_Play
  · cases h; exact ok_escrow_Do
  · cases h; exact ok_slices_DeleteFunc_Commit
  · cases h; exact ok_slices_Clone_Commit
  · cases h; exact ok_escrow_Covered_1
  · cases h; exact ok_cut_Sees
  · cases h; exact ok_slices_SortStableFunc_Commit
  · cases h; exact ok_escrow_Covered_2
  · cases h; exact ok_cut_Before
  · cases h; exact ok_r20_GreatestIn
  · cases h; exact ok_r20_All
  · cases h; exact ok_r20_Limit
  · cases h; exact ok_cut_Closed
  · cases h; exact ok_cut_indices
  · cases h; exact ok_slices_SortFunc_int
  · cases h; exact ok_cut_Order_1
  · cases h; exact ok_cut_compare
  · cases h; exact ok_cut_Valid
  · cases h; exact ok_r20_Sees
  · cases h; exact ok_r20_Valid
  · cases h; exact ok_escrow_station
  · cases h; exact ok_escrow_try
  · cases h; exact ok_escrow_Take_1
  · cases h; exact ok_escrow_stock_take
  · cases h; exact ok_escrow_Grant_1
  · cases h; exact ok_escrow_stock_grant
  · cases h; exact ok_slices_Clone_int
  · cases h; exact ok_escrow_Do_1
  · cases h; exact ok_slices_IndexFunc_Commit
  · cases h; exact ok_cut_WellFormed
  · cases h; exact ok_slices_stableCmpFunc_Commit
  · cases h; exact ok_r20_Before
  · cases h; exact ok_r20_Closed
  · cases h; exact ok_r20_fits
  · cases h; exact ok_cut_reach
  · cases h; exact ok_slices_Equal_int
  · cases h; exact ok_slices_pdqsortCmpFunc_int
  · cases h; exact ok_bits_Len
  · cases h; exact ok_cmp_Or_int
  · cases h; exact ok_cmp_Compare_int
  · cases h; exact ok_cut_weight
  · cases h; exact ok_slices_ContainsFunc_int
  · cases h; exact ok_cut_Valid_1
  · cases h; exact ok_r20_WellFormed
  · cases h; exact ok_slices_insertionSortCmpFunc_Commit
  · cases h; exact ok_r20_Weight
  · cases h; exact ok_r20_Find
  · cases h; exact ok_r20_Leq
  · cases h; exact ok_cut_Leq
  · cases h; exact ok_slices_insertionSortCmpFunc_int
  · cases h; exact ok_bits_Len32
  · cases h; exact ok_bits_Len64
  · cases h; exact ok_cmp_isNaN_int
  · cases h; exact ok_slices_IndexFunc_int
  · cases h
end Go.Abs
