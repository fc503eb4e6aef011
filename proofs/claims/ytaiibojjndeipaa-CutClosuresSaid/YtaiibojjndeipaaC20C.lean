/- Walks of chapter 20: cuts and lists. -/
import Derived.Test.YtaiibojjndeipaaC20B
set_option linter.all false
set_option linter.unusedSimpArgs false
set_option linter.unusedVariables false
namespace Go.Abs
open Go

theorem r20_Zero_spec  {lv : List Nat} {σ : Sto} {R : Post} : Cw T true i_r20_Zero [] lv σ R ↔ R (ints .lst [0, 0, 0, 0, 0, 0]) σ := by
  refine cw_intro T_r20_Zero (by simp only [go_sem]) (by simp) ?_; rw [run_unfold r20_Zero.main.eq_1]
  simp (maxSteps := 2000000) only [go_sem, ↓reduceIte, Nat.reduceLT, Nat.reduceEqDiff, Nat.reduceLeDiff, Nat.reduceAdd, Nat.reduceSub, Nat.reduceMul, Int.reduceLT, Int.reduceLE, Int.reduceEq, Int.reduceNeg]
  rw [show mksliceV 1 8 [AVal.int IntKind.i64 0] (AVal.int IntKind.i64 6) (AVal.int IntKind.i64 6) [] = some (.ref 0 6 0 6 1, [.cells false [int 0, int 0, int 0, int 0, int 0, int 0]]) from rfl]
  simp (maxSteps := 2000000) only [go_sem, ↓reduceIte, Nat.reduceLT, Nat.reduceEqDiff, Nat.reduceLeDiff, Nat.reduceAdd, Nat.reduceSub, Nat.reduceMul, Int.reduceLT, Int.reduceLE, Int.reduceEq, Int.reduceNeg]
  exact snap_ints (c := [0, 0, 0, 0, 0, 0]) rfl
@[go_sem] theorem r20_Zero_call  {Q : Post3} {k : List Item} {os : List AOper} {d : Option Nat} {e : Env} {σ : Sto} : CallK T Q k os d e σ true i_r20_Zero [] ↔ Run T Q (.ops os :: k) (put e d (ints .lst [0, 0, 0, 0, 0, 0])) σ := r20_Zero_spec


theorem r20_Same_loop {f g : SlF} {a b : List Int} (ha : Fits a) (hb : b.length = a.length) : ∀ i, i ≤ a.length →
    Run T (Res [.tmp 4] (.bool (decide (a.drop i = b.drop i)))) (.inLoop r20_Same.b0 :: r20_Same.k0) (mkE 26 [(0, ints f a), (1, ints g b), (5, .int .i64 i)]) [] := by
  refine up_ind ?_ fun i hi ih => ?_
  · rw [run_round, run_unfold r20_Same.b0.eq_1]
    simp (maxSteps := 2000000) only [go_sem, ↓reduceIte, Nat.reduceLT, Nat.reduceEqDiff, Nat.reduceLeDiff, Nat.reduceAdd, Nat.reduceSub, Nat.reduceMul, Int.reduceLT, Int.reduceLE, Int.reduceEq, Int.reduceNeg, run_unfold r20_Same.c0.eq_1, run_unfold r20_Same.c1.eq_1, r20_Same.k0, List.drop_length, show b.drop a.length = [] by rw [← hb]; exact List.drop_length]
  · rw [run_round, run_unfold r20_Same.b0.eq_1]
    have h2 : i < b.length := by omega
    rw [List.drop_eq_getElem_cons hi, List.drop_eq_getElem_cons h2]
    simp (maxSteps := 2000000) only [go_sem, ↓reduceIte, Nat.reduceLT, Nat.reduceEqDiff, Nat.reduceLeDiff, Nat.reduceAdd, Nat.reduceSub, Nat.reduceMul, Int.reduceLT, Int.reduceLE, Int.reduceEq, Int.reduceNeg, hi, h2, List.cons.injEq]
    by_cases h : a[i] = b[i]
    · simp (maxSteps := 2000000) only [go_sem, ↓reduceIte, Nat.reduceLT, Nat.reduceEqDiff, Nat.reduceLeDiff, Nat.reduceAdd, Nat.reduceSub, Nat.reduceMul, Int.reduceLT, Int.reduceLE, Int.reduceEq, Int.reduceNeg, h, wrap_succ (show i < 9223372036854775807 by omega)]
      exact ih
    · simp (maxSteps := 2000000) only [go_sem, ↓reduceIte, Nat.reduceLT, Nat.reduceEqDiff, Nat.reduceLeDiff, Nat.reduceAdd, Nat.reduceSub, Nat.reduceMul, Int.reduceLT, Int.reduceLE, Int.reduceEq, Int.reduceNeg, h]

theorem r20_Same_spec {f g : SlF} {a b : List Int} (ha : Fits a) {lv : List Nat} {σ : Sto} {R : Post} : Cw T true i_r20_Same [ints f a, ints g b] lv σ R ↔ R (.bool (decide (a = b))) σ := by
  refine cw_intro T_r20_Same (by simp only [go_sem]) (by simp) ?_; rw [run_unfold r20_Same.main.eq_1]
  simp (maxSteps := 2000000) only [go_sem, ↓reduceIte, Nat.reduceLT, Nat.reduceEqDiff, Nat.reduceLeDiff, Nat.reduceAdd, Nat.reduceSub, Nat.reduceMul, Int.reduceLT, Int.reduceLE, Int.reduceEq, Int.reduceNeg]
  by_cases h : a.length = b.length
  · simp (maxSteps := 2000000) only [go_sem, ↓reduceIte, Nat.reduceLT, Nat.reduceEqDiff, Nat.reduceLeDiff, Nat.reduceAdd, Nat.reduceSub, Nat.reduceMul, Int.reduceLT, Int.reduceLE, Int.reduceEq, Int.reduceNeg, h]
    exact r20_Same_loop ha h.symm 0 (by omega)
  · have h' : ¬ a = b := fun e => h (by rw [e])
    have h2 : ¬ ((a.length : Int) = (b.length : Int)) := by omega
    simp (maxSteps := 2000000) only [go_sem, ↓reduceIte, Nat.reduceLT, Nat.reduceEqDiff, Nat.reduceLeDiff, Nat.reduceAdd, Nat.reduceSub, Nat.reduceMul, Int.reduceLT, Int.reduceLE, Int.reduceEq, Int.reduceNeg, h2, h']
@[go_sem] theorem r20_Same_call {f g : SlF} {a b : List Int} (ha : Fits a) {Q : Post3} {k : List Item} {os : List AOper} {d : Option Nat} {e : Env} {σ : Sto} : CallK T Q k os d e σ true i_r20_Same [ints f a, ints g b] ↔ Run T Q (.ops os :: k) (put e d (.bool (decide (a = b)))) σ := r20_Same_spec ha


/-- a cut with an error -/
structure Cut where
  f : SlF
  c : List Int
  e : Int
abbrev encU (u : Cut) : AVal := .agg [ints u.f u.c, .int .i64 u.e]

theorem r20_Alike_spec {f g : SlF} {a b : List Int} {x y : Int} (ha : Fits a) {lv : List Nat} {σ : Sto} {R : Post} : Cw T true i_r20_Alike [.agg [ints f a, .int .i64 x], .agg [ints g b, .int .i64 y]] lv σ R ↔ R (.bool (decide (x = y) && decide (a = b))) σ := by
  refine cw_intro T_r20_Alike (by simp only [go_sem]) (by simp) ?_; rw [run_unfold r20_Alike.main.eq_1]
  cases h : decide (x = y)
  · simp (maxSteps := 2000000) only [go_sem, ↓reduceIte, Nat.reduceLT, Nat.reduceEqDiff, Nat.reduceLeDiff, Nat.reduceAdd, Nat.reduceSub, Nat.reduceMul, Int.reduceLT, Int.reduceLE, Int.reduceEq, Int.reduceNeg, h]
  · simp (maxSteps := 2000000) only [go_sem, ↓reduceIte, Nat.reduceLT, Nat.reduceEqDiff, Nat.reduceLeDiff, Nat.reduceAdd, Nat.reduceSub, Nat.reduceMul, Int.reduceLT, Int.reduceLE, Int.reduceEq, Int.reduceNeg, h, ha]
@[go_sem] theorem r20_Alike_call {f g : SlF} {a b : List Int} {x y : Int} (ha : Fits a) {Q : Post3} {k : List Item} {os : List AOper} {d : Option Nat} {e : Env} {σ : Sto} : CallK T Q k os d e σ true i_r20_Alike [.agg [ints f a, .int .i64 x], .agg [ints g b, .int .i64 y]] ↔ Run T Q (.ops os :: k) (put e d (.bool (decide (x = y) && decide (a = b)))) σ := r20_Alike_spec ha


def cutOf (a b : List Int) (c : List Int) : Cut := if valid a && valid b then ⟨.lst, c, 0⟩ else ⟨.nil, [], 200⟩
def maxL (a b : List Int) : List Int := List.zipWith (fun x y => if x < y then y else x) a b
def minL (a b : List Int) : List Int := List.zipWith (fun x y => if y < x then y else x) a b

theorem drop_zipWith {α β γ : Type} {h : α → β → γ} {a : List α} {b : List β} {i : Nat} (h1 : i < a.length) (h2 : i < b.length) : (List.zipWith h a b).drop i = h a[i] b[i] :: (List.zipWith h a b).drop (i + 1) := by
  have : i < (List.zipWith h a b).length := by simp; omega
  rw [List.drop_eq_getElem_cons this]; simp

theorem r20_JoinIn_loop {f g : SlF} {a b : List Int} (ha : a.length = 6) (hb : b.length = 6) : ∀ i, i ≤ 6 → ∀ o : List Int, o.length = i →
    Run T (Res [.cell 4 true 2] (.agg [ints .lst (o ++ (maxL a b).drop i), .int .i64 0])) (.inLoop r20_JoinIn.b0 :: r20_JoinIn.k0) (mkE 37 [(0, ints f a), (1, ints g b), (4, .ptr 0 2 0), (5, .ref 1 o.length 0 o.length 1), (6, .int .i64 i)]) [.cells false [.nils, .int .i64 0], .cells false (o.map fun n => .int .i64 n)] := by
  refine up_ind ?_ fun i hi ih o ho => ?_
  · intro o ho
    rw [run_round, run_unfold r20_JoinIn.b0.eq_1]
    rw [List.drop_eq_nil_of_le (by simp [maxL]; omega)]
    simp (maxSteps := 2000000) only [go_sem, ↓reduceIte, Nat.reduceLT, Nat.reduceEqDiff, Nat.reduceLeDiff, Nat.reduceAdd, Nat.reduceSub, Nat.reduceMul, Int.reduceLT, Int.reduceLE, Int.reduceEq, Int.reduceNeg, run_unfold r20_JoinIn.c0.eq_1, run_unfold r20_JoinIn.c1.eq_1, r20_JoinIn.k0, ha]
    rw [snap_ints (by rfl)]
    simp (maxSteps := 2000000) only [go_sem, ↓reduceIte, Nat.reduceLT, Nat.reduceEqDiff, Nat.reduceLeDiff, Nat.reduceAdd, Nat.reduceSub, Nat.reduceMul, Int.reduceLT, Int.reduceLE, Int.reduceEq, Int.reduceNeg]
  · rw [run_round, run_unfold r20_JoinIn.b0.eq_1]
    have h1 : i < a.length := by omega
    have h2 : i < b.length := by omega
    simp (maxSteps := 2000000) only [go_sem, ↓reduceIte, Nat.reduceLT, Nat.reduceEqDiff, Nat.reduceLeDiff, Nat.reduceAdd, Nat.reduceSub, Nat.reduceMul, Int.reduceLT, Int.reduceLE, Int.reduceEq, Int.reduceNeg, h1, h2]
    rw [appendV_push (by rfl) (by rfl) (by simp) rfl (by unfold maxBytes; omega)]
    simp (maxSteps := 2000000) only [go_sem, ↓reduceIte, Nat.reduceLT, Nat.reduceEqDiff, Nat.reduceLeDiff, Nat.reduceAdd, Nat.reduceSub, Nat.reduceMul, Int.reduceLT, Int.reduceLE, Int.reduceEq, Int.reduceNeg, wrap_succ (show i < 9223372036854775807 by omega)]
    have := ih (o ++ [if a[i] < b[i] then b[i] else a[i]]) (by simp [ho])
    rw [maxL, drop_zipWith h1 h2, ← maxL]
    simpa using this

theorem r20_JoinIn_spec {f g : SlF} {a b : List Int} {lv : List Nat} {σ : Sto} {R : Post} : Cw T true i_r20_JoinIn [ints f a, ints g b] lv σ R ↔ R (encU (cutOf a b (maxL a b))) σ := by
  refine cw_intro T_r20_JoinIn (by simp only [go_sem]) (by simp) ?_; rw [run_unfold r20_JoinIn.main.eq_1]
  unfold cutOf
  cases ha : valid a
  case false => simp (maxSteps := 2000000) only [go_sem, ↓reduceIte, Nat.reduceLT, Nat.reduceEqDiff, Nat.reduceLeDiff, Nat.reduceAdd, Nat.reduceSub, Nat.reduceMul, Int.reduceLT, Int.reduceLE, Int.reduceEq, Int.reduceNeg, ha]
  cases hb : valid b
  case false => simp (maxSteps := 2000000) only [go_sem, ↓reduceIte, Nat.reduceLT, Nat.reduceEqDiff, Nat.reduceLeDiff, Nat.reduceAdd, Nat.reduceSub, Nat.reduceMul, Int.reduceLT, Int.reduceLE, Int.reduceEq, Int.reduceNeg, hb, ha]
  simp (maxSteps := 2000000) only [go_sem, ↓reduceIte, Nat.reduceLT, Nat.reduceEqDiff, Nat.reduceLeDiff, Nat.reduceAdd, Nat.reduceSub, Nat.reduceMul, Int.reduceLT, Int.reduceLE, Int.reduceEq, Int.reduceNeg, ha, hb]
  exact r20_JoinIn_loop (valid_len ha) (valid_len hb) 0 (by omega) [] rfl
@[go_sem] theorem r20_JoinIn_call {f g : SlF} {a b : List Int} {Q : Post3} {k : List Item} {os : List AOper} {d : Option Nat} {e : Env} {σ : Sto} : CallK T Q k os d e σ true i_r20_JoinIn [ints f a, ints g b] ↔ Run T Q (.ops os :: k) (put e d (encU (cutOf a b (maxL a b)))) σ := r20_JoinIn_spec


theorem r20_MeetIn_loop {f g : SlF} {a b : List Int} (ha : a.length = 6) (hb : b.length = 6) : ∀ i, i ≤ 6 → ∀ o : List Int, o.length = i →
    Run T (Res [.cell 4 true 2] (.agg [ints .lst (o ++ (minL a b).drop i), .int .i64 0])) (.inLoop r20_MeetIn.b0 :: r20_MeetIn.k0) (mkE 37 [(0, ints f a), (1, ints g b), (4, .ptr 0 2 0), (5, .ref 1 o.length 0 o.length 1), (6, .int .i64 i)]) [.cells false [.nils, .int .i64 0], .cells false (o.map fun n => .int .i64 n)] := by
  refine up_ind ?_ fun i hi ih o ho => ?_
  · intro o ho
    rw [run_round, run_unfold r20_MeetIn.b0.eq_1]
    rw [List.drop_eq_nil_of_le (by simp [minL]; omega)]
    simp (maxSteps := 2000000) only [go_sem, ↓reduceIte, Nat.reduceLT, Nat.reduceEqDiff, Nat.reduceLeDiff, Nat.reduceAdd, Nat.reduceSub, Nat.reduceMul, Int.reduceLT, Int.reduceLE, Int.reduceEq, Int.reduceNeg, run_unfold r20_MeetIn.c0.eq_1, run_unfold r20_MeetIn.c1.eq_1, r20_MeetIn.k0, ha]
    rw [snap_ints (by rfl)]
    simp (maxSteps := 2000000) only [go_sem, ↓reduceIte, Nat.reduceLT, Nat.reduceEqDiff, Nat.reduceLeDiff, Nat.reduceAdd, Nat.reduceSub, Nat.reduceMul, Int.reduceLT, Int.reduceLE, Int.reduceEq, Int.reduceNeg]
  · rw [run_round, run_unfold r20_MeetIn.b0.eq_1]
    have h1 : i < a.length := by omega
    have h2 : i < b.length := by omega
    simp (maxSteps := 2000000) only [go_sem, ↓reduceIte, Nat.reduceLT, Nat.reduceEqDiff, Nat.reduceLeDiff, Nat.reduceAdd, Nat.reduceSub, Nat.reduceMul, Int.reduceLT, Int.reduceLE, Int.reduceEq, Int.reduceNeg, h1, h2]
    rw [appendV_push (by rfl) (by rfl) (by simp) rfl (by unfold maxBytes; omega)]
    simp (maxSteps := 2000000) only [go_sem, ↓reduceIte, Nat.reduceLT, Nat.reduceEqDiff, Nat.reduceLeDiff, Nat.reduceAdd, Nat.reduceSub, Nat.reduceMul, Int.reduceLT, Int.reduceLE, Int.reduceEq, Int.reduceNeg, wrap_succ (show i < 9223372036854775807 by omega)]
    have := ih (o ++ [if b[i] < a[i] then b[i] else a[i]]) (by simp [ho])
    rw [minL, drop_zipWith h1 h2, ← minL]
    simpa using this

theorem r20_MeetIn_spec {f g : SlF} {a b : List Int} {lv : List Nat} {σ : Sto} {R : Post} : Cw T true i_r20_MeetIn [ints f a, ints g b] lv σ R ↔ R (encU (cutOf a b (minL a b))) σ := by
  refine cw_intro T_r20_MeetIn (by simp only [go_sem]) (by simp) ?_; rw [run_unfold r20_MeetIn.main.eq_1]
  unfold cutOf
  cases ha : valid a
  case false => simp (maxSteps := 2000000) only [go_sem, ↓reduceIte, Nat.reduceLT, Nat.reduceEqDiff, Nat.reduceLeDiff, Nat.reduceAdd, Nat.reduceSub, Nat.reduceMul, Int.reduceLT, Int.reduceLE, Int.reduceEq, Int.reduceNeg, ha]
  cases hb : valid b
  case false => simp (maxSteps := 2000000) only [go_sem, ↓reduceIte, Nat.reduceLT, Nat.reduceEqDiff, Nat.reduceLeDiff, Nat.reduceAdd, Nat.reduceSub, Nat.reduceMul, Int.reduceLT, Int.reduceLE, Int.reduceEq, Int.reduceNeg, hb, ha]
  simp (maxSteps := 2000000) only [go_sem, ↓reduceIte, Nat.reduceLT, Nat.reduceEqDiff, Nat.reduceLeDiff, Nat.reduceAdd, Nat.reduceSub, Nat.reduceMul, Int.reduceLT, Int.reduceLE, Int.reduceEq, Int.reduceNeg, ha, hb]
  exact r20_MeetIn_loop (valid_len ha) (valid_len hb) 0 (by omega) [] rfl

@[go_sem] theorem r20_MeetIn_call {f g : SlF} {a b : List Int} {Q : Post3} {k : List Item} {os : List AOper} {d : Option Nat} {e : Env} {σ : Sto} : CallK T Q k os d e σ true i_r20_MeetIn [ints f a, ints g b] ↔ Run T Q (.ops os :: k) (put e d (encU (cutOf a b (minL a b)))) σ := r20_MeetIn_spec


theorem slices_Clone_int_spec {f : SlF} {c : List Int} (hc : c ≠ []) (hb : c.length * 8 ≤ maxBytes) {σ : Sto} {R : Post} : Cw T false i_slices_Clone_int [ints f c] [] σ R ↔ R (.ref σ.length c.length 0 c.length 1) (σ ++ [.cells false (c.map fun n => .int .i64 n)]) := by
  rw [cw_enter T_slices_Clone_int (by simp), run_unfold slices_Clone_int.main.eq_1]
  simp (maxSteps := 2000000) only [go_sem, ↓reduceIte, Nat.reduceLT, Nat.reduceEqDiff, Nat.reduceLeDiff, Nat.reduceAdd, Nat.reduceSub, Nat.reduceMul, Int.reduceLT, Int.reduceLE, Int.reduceEq, Int.reduceNeg, eqnilV_sv (show (c.map fun n => AVal.int .i64 n) ≠ [] by simpa using hc)]
  rw [appendV_fresh get_last rowOf_ints (by simp) (by decide) (by simp [AVal.one]) hb]
  simp (maxSteps := 2000000) only [go_sem, ↓reduceIte, Nat.reduceLT, Nat.reduceEqDiff, Nat.reduceLeDiff, Nat.reduceAdd, Nat.reduceSub, Nat.reduceMul, Int.reduceLT, Int.reduceLE, Int.reduceEq, Int.reduceNeg, set_last]

@[go_sem] theorem slices_Clone_int_call {f : SlF} {c : List Int} (hc : c ≠ []) (hb : c.length * 8 ≤ maxBytes) {Q : Post3} {k : List Item} {os : List AOper} {d : Option Nat} {e : Env} {σ : Sto} :
    CallK T Q k os d e σ false i_slices_Clone_int [ints f c] ↔ Run T Q (.ops os :: k) (put e d (.ref σ.length c.length 0 c.length 1)) (σ ++ [.cells false (c.map fun n => .int .i64 n)]) := callK_shared (slices_Clone_int_spec hc hb)

abbrev encT (u : Cut) : AVal := .tup [ints u.f u.c, .int .i64 u.e]

theorem cut_merge_loop {g : SlF} {a b : List Int} {q : FuncId} {h : Int → Int → Int} (hq : ∀ {x y : Int} {lv : List Nat} {σ : Sto} {R : Post}, Cw T true q [.int .i64 x, .int .i64 y] lv σ R ↔ R (.int .i64 (h x y)) σ) (ha : a.length = 6) (hb : b.length = 6) : ∀ i, i ≤ 6 → ∀ o : List Int, o.length = 6 → o.drop i = a.drop i →
    Run T (Res [.tmp 6, .tmp 7] (.tup [ints .lst (o.take i ++ (List.zipWith h a b).drop i), .int .i64 0])) (.inLoop cut_merge.b0 :: cut_merge.k0) (mkE 40 [(2, .clo (.func q) [] []), (8, .ref 0 6 0 6 1), (21, ints g b), (22, .int .i64 b.length), (23, .int .i64 i)]) [.cells false (o.map fun n => .int .i64 n)] := by
  refine up_ind ?_ fun i hi ih o ho hd => ?_
  · intro o ho _
    rw [run_round, run_unfold cut_merge.b0.eq_1]
    rw [List.drop_eq_nil_of_le (by simp; omega), List.take_of_length_le (by omega)]
    simp (maxSteps := 2000000) only [go_sem, ↓reduceIte, Nat.reduceLT, Nat.reduceEqDiff, Nat.reduceLeDiff, Nat.reduceAdd, Nat.reduceSub, Nat.reduceMul, Int.reduceLT, Int.reduceLE, Int.reduceEq, Int.reduceNeg, run_unfold cut_merge.c0.eq_1, run_unfold cut_merge.c1.eq_1, cut_merge.k0, hb]
    rw [show (6 : Nat) = o.length from ho.symm, snap_ints (by rfl)]
    simp (maxSteps := 2000000) only [go_sem, ↓reduceIte, Nat.reduceLT, Nat.reduceEqDiff, Nat.reduceLeDiff, Nat.reduceAdd, Nat.reduceSub, Nat.reduceMul, Int.reduceLT, Int.reduceLE, Int.reduceEq, Int.reduceNeg]
  · rw [run_round, run_unfold cut_merge.b0.eq_1]
    have h1 : i < a.length := by omega
    have h2 : i < b.length := by omega
    have h3 : i < o.length := by omega
    have h4 : o[i] = a[i] := get_of_drop hd h3 h1
    simp (maxSteps := 2000000) only [go_sem, ↓reduceIte, Nat.reduceLT, Nat.reduceEqDiff, Nat.reduceLeDiff, Nat.reduceAdd, Nat.reduceSub, Nat.reduceMul, Int.reduceLT, Int.reduceLE, Int.reduceEq, Int.reduceNeg, h1, h2, h3, ho, show i < 6 by omega, callK_of hq, show i + 1 ≤ 6 by omega, wrap_succ (show i < 9223372036854775807 by omega)]
    have := ih (o.set i (h a[i] b[i])) (by simp [ho]) (by
      rw [List.drop_set_of_lt (by omega)]
      have := congrArg List.tail hd
      simpa using this)
    rw [drop_zipWith h1 h2, h4]
    rw [take_set_succ h3, List.append_assoc] at this
    exact this

theorem cut_Join_1_spec {a b : Int} {lv : List Nat} {σ : Sto} {R : Post} : Cw T true i_cut_Join_1 [.int .i64 a, .int .i64 b] lv σ R ↔ R (.int .i64 (if a < b then b else a)) σ := by
  refine cw_intro T_cut_Join_1 (by simp only [go_sem]) (by simp) ?_; rw [run_unfold cut_Join_1.main.eq_1]
  simp (maxSteps := 2000000) only [go_sem, ↓reduceIte, Nat.reduceLT, Nat.reduceEqDiff, Nat.reduceLeDiff, Nat.reduceAdd, Nat.reduceSub, Nat.reduceMul, Int.reduceLT, Int.reduceLE, Int.reduceEq, Int.reduceNeg]
@[go_sem] theorem cut_Join_1_call {a b : Int} {Q : Post3} {k : List Item} {os : List AOper} {d : Option Nat} {e : Env} {σ : Sto} : CallK T Q k os d e σ true i_cut_Join_1 [.int .i64 a, .int .i64 b] ↔ Run T Q (.ops os :: k) (put e d (.int .i64 (if a < b then b else a))) σ := cut_Join_1_spec

theorem cut_Meet_1_spec {a b : Int} {lv : List Nat} {σ : Sto} {R : Post} : Cw T true i_cut_Meet_1 [.int .i64 a, .int .i64 b] lv σ R ↔ R (.int .i64 (if b < a then b else a)) σ := by
  refine cw_intro T_cut_Meet_1 (by simp only [go_sem]) (by simp) ?_; rw [run_unfold cut_Meet_1.main.eq_1]
  simp (maxSteps := 2000000) only [go_sem, ↓reduceIte, Nat.reduceLT, Nat.reduceEqDiff, Nat.reduceLeDiff, Nat.reduceAdd, Nat.reduceSub, Nat.reduceMul, Int.reduceLT, Int.reduceLE, Int.reduceEq, Int.reduceNeg]

@[go_sem] theorem cut_Meet_1_call {a b : Int} {Q : Post3} {k : List Item} {os : List AOper} {d : Option Nat} {e : Env} {σ : Sto} : CallK T Q k os d e σ true i_cut_Meet_1 [.int .i64 a, .int .i64 b] ↔ Run T Q (.ops os :: k) (put e d (.int .i64 (if b < a then b else a))) σ := cut_Meet_1_spec


theorem cut_merge_spec {f g : SlF} {a b : List Int} {q : FuncId} {h : Int → Int → Int} (hq : ∀ {x y : Int} {lv : List Nat} {σ : Sto} {R : Post}, Cw T true q [.int .i64 x, .int .i64 y] lv σ R ↔ R (.int .i64 (h x y)) σ) {lv : List Nat} {σ : Sto} {R : Post} :
    Cw T true i_cut_merge [ints f a, ints g b, .clo (.func q) [] []] lv σ R ↔ R (encT (cutOf a b (List.zipWith h a b))) σ := by
  refine cw_intro T_cut_merge (by simp only [go_sem]) (by simp) ?_; rw [run_unfold cut_merge.main.eq_1]
  unfold cutOf
  cases ha : valid a
  case false => simp (maxSteps := 2000000) only [go_sem, ↓reduceIte, Nat.reduceLT, Nat.reduceEqDiff, Nat.reduceLeDiff, Nat.reduceAdd, Nat.reduceSub, Nat.reduceMul, Int.reduceLT, Int.reduceLE, Int.reduceEq, Int.reduceNeg, ha, encT]
  cases hb : valid b
  case false => simp (maxSteps := 2000000) only [go_sem, ↓reduceIte, Nat.reduceLT, Nat.reduceEqDiff, Nat.reduceLeDiff, Nat.reduceAdd, Nat.reduceSub, Nat.reduceMul, Int.reduceLT, Int.reduceLE, Int.reduceEq, Int.reduceNeg, hb, ha, encT]
  have la := valid_len ha
  have lb := valid_len hb
  have hne : a ≠ [] := by intro e; rw [e] at la; simp at la
  have hmx : a.length * 8 ≤ maxBytes := by unfold maxBytes; omega
  simp (maxSteps := 2000000) only [go_sem, ↓reduceIte, Nat.reduceLT, Nat.reduceEqDiff, Nat.reduceLeDiff, Nat.reduceAdd, Nat.reduceSub, Nat.reduceMul, Int.reduceLT, Int.reduceLE, Int.reduceEq, Int.reduceNeg, ha, hb, hne, hmx]
  have := cut_merge_loop (g := g) hq la lb 0 (by omega) a la rfl
  rw [la]
  exact this

theorem cut_Join_spec {f g : SlF} {a b : List Int} {lv : List Nat} {σ : Sto} {R : Post} : Cw T true i_cut_Join [ints f a, ints g b] lv σ R ↔ R (encT (cutOf a b (maxL a b))) σ := by
  refine cw_intro T_cut_Join (by simp only [go_sem]) (by simp) ?_; rw [run_unfold cut_Join.main.eq_1]
  simp (maxSteps := 2000000) only [go_sem, ↓reduceIte, Nat.reduceLT, Nat.reduceEqDiff, Nat.reduceLeDiff, Nat.reduceAdd, Nat.reduceSub, Nat.reduceMul, Int.reduceLT, Int.reduceLE, Int.reduceEq, Int.reduceNeg, callK_of (cut_merge_spec (h := fun x y => if x < y then y else x) cut_Join_1_spec)]
  rfl
@[go_sem] theorem cut_Join_call {f g : SlF} {a b : List Int} {Q : Post3} {k : List Item} {os : List AOper} {d : Option Nat} {e : Env} {σ : Sto} : CallK T Q k os d e σ true i_cut_Join [ints f a, ints g b] ↔ Run T Q (.ops os :: k) (put e d (encT (cutOf a b (maxL a b)))) σ := cut_Join_spec

theorem cut_Meet_spec {f g : SlF} {a b : List Int} {lv : List Nat} {σ : Sto} {R : Post} : Cw T true i_cut_Meet [ints f a, ints g b] lv σ R ↔ R (encT (cutOf a b (minL a b))) σ := by
  refine cw_intro T_cut_Meet (by simp only [go_sem]) (by simp) ?_; rw [run_unfold cut_Meet.main.eq_1]
  simp (maxSteps := 2000000) only [go_sem, ↓reduceIte, Nat.reduceLT, Nat.reduceEqDiff, Nat.reduceLeDiff, Nat.reduceAdd, Nat.reduceSub, Nat.reduceMul, Int.reduceLT, Int.reduceLE, Int.reduceEq, Int.reduceNeg, callK_of (cut_merge_spec (h := fun x y => if y < x then y else x) cut_Meet_1_spec)]
  rfl
@[go_sem] theorem cut_Meet_call {f g : SlF} {a b : List Int} {Q : Post3} {k : List Item} {os : List AOper} {d : Option Nat} {e : Env} {σ : Sto} : CallK T Q k os d e σ true i_cut_Meet [ints f a, ints g b] ↔ Run T Q (.ops os :: k) (put e d (encT (cutOf a b (minL a b)))) σ := cut_Meet_spec

theorem l20_join_spec {f g : SlF} {a b : List Int} {lv : List Nat} {σ : Sto} {R : Post} : Cw T true i_l20_join [ints f a, ints g b] lv σ R ↔ R (encU (cutOf a b (maxL a b))) σ := by
  refine cw_intro T_l20_join (by simp only [go_sem]) (by simp) ?_; rw [run_unfold l20_join.main.eq_1]
  simp (maxSteps := 2000000) only [go_sem, ↓reduceIte, Nat.reduceLT, Nat.reduceEqDiff, Nat.reduceLeDiff, Nat.reduceAdd, Nat.reduceSub, Nat.reduceMul, Int.reduceLT, Int.reduceLE, Int.reduceEq, Int.reduceNeg]
@[go_sem] theorem l20_join_call {f g : SlF} {a b : List Int} {Q : Post3} {k : List Item} {os : List AOper} {d : Option Nat} {e : Env} {σ : Sto} : CallK T Q k os d e σ true i_l20_join [ints f a, ints g b] ↔ Run T Q (.ops os :: k) (put e d (encU (cutOf a b (maxL a b)))) σ := l20_join_spec

theorem l20_meet_spec {f g : SlF} {a b : List Int} {lv : List Nat} {σ : Sto} {R : Post} : Cw T true i_l20_meet [ints f a, ints g b] lv σ R ↔ R (encU (cutOf a b (minL a b))) σ := by
  refine cw_intro T_l20_meet (by simp only [go_sem]) (by simp) ?_; rw [run_unfold l20_meet.main.eq_1]
  simp (maxSteps := 2000000) only [go_sem, ↓reduceIte, Nat.reduceLT, Nat.reduceEqDiff, Nat.reduceLeDiff, Nat.reduceAdd, Nat.reduceSub, Nat.reduceMul, Int.reduceLT, Int.reduceLE, Int.reduceEq, Int.reduceNeg]
@[go_sem] theorem l20_meet_call {f g : SlF} {a b : List Int} {Q : Post3} {k : List Item} {os : List AOper} {d : Option Nat} {e : Env} {σ : Sto} : CallK T Q k os d e σ true i_l20_meet [ints f a, ints g b] ↔ Run T Q (.ops os :: k) (put e d (encU (cutOf a b (minL a b)))) σ := l20_meet_spec


end Go.Abs
