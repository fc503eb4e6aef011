/- Walks of chapter 20: the first functions. -/
import Derived.Test.YtaiibojjndeipaaC20F
import Derived.Test.YtaiibojjndeipaaAbsVal
set_option linter.all false
set_option linter.unusedSimpArgs false
set_option linter.unusedVariables false
namespace Go.Abs
open Go

abbrev int (n : Int) : AVal := .int .i64 n
abbrev ints (f : SlF) (c : List Int) : AVal := sv 1 f (c.map fun n => .int .i64 n)
@[go_sem] theorem ints_nil : ints .nil [] = .nils := rfl
abbrev Fits {α : Type} (l : List α) : Prop := l.length < 9223372036854775808

def okSeq (n : Int) : Bool := decide (0 ≤ n) && decide (n ≤ 999)
def valid (c : List Int) : Bool := decide (c.length = 6) && c.all okSeq

theorem r20_Valid_loop {f : SlF} {c : List Int} (hl : c.length = 6) : ∀ i, i ≤ c.length →
    Run T (Res [.tmp 2] (.bool ((c.drop i).all okSeq))) (.inLoop r20_Valid.b0 :: r20_Valid.k0) (mkE 25 [(0, ints f c), (3, .int .i64 i)]) [] := by
  refine up_ind ?_ fun i hi ih => ?_
  · rw [run_round, run_unfold r20_Valid.b0.eq_1]
    simp (maxSteps := 2000000) only [go_sem, ↓reduceIte, Nat.reduceLT, Nat.reduceEqDiff, Nat.reduceLeDiff, Nat.reduceAdd, Nat.reduceSub, Nat.reduceMul, Int.reduceLT, Int.reduceLE, Int.reduceEq, Int.reduceNeg, Nat.lt_irrefl, r20_Valid.k0, run_unfold r20_Valid.c0.eq_1, List.drop_length]
  · rw [run_round, run_unfold r20_Valid.b0.eq_1]
    rw [List.drop_eq_getElem_cons hi]
    simp (maxSteps := 2000000) only [go_sem, ↓reduceIte, Nat.reduceLT, Nat.reduceEqDiff, Nat.reduceLeDiff, Nat.reduceAdd, Nat.reduceSub, Nat.reduceMul, Int.reduceLT, Int.reduceLE, Int.reduceEq, Int.reduceNeg, hi, okSeq]
    by_cases h0 : c[i] < 0
    · simp (maxSteps := 2000000) only [go_sem, ↓reduceIte, Nat.reduceLT, Nat.reduceEqDiff, Nat.reduceLeDiff, Nat.reduceAdd, Nat.reduceSub, Nat.reduceMul, Int.reduceLT, Int.reduceLE, Int.reduceEq, Int.reduceNeg, h0, Int.not_le.2 h0]
    · simp (maxSteps := 2000000) only [go_sem, ↓reduceIte, Nat.reduceLT, Nat.reduceEqDiff, Nat.reduceLeDiff, Nat.reduceAdd, Nat.reduceSub, Nat.reduceMul, Int.reduceLT, Int.reduceLE, Int.reduceEq, Int.reduceNeg, hi, h0, Int.not_lt.1 h0]
      by_cases h1 : 999 < c[i]
      · simp (maxSteps := 2000000) only [go_sem, ↓reduceIte, Nat.reduceLT, Nat.reduceEqDiff, Nat.reduceLeDiff, Nat.reduceAdd, Nat.reduceSub, Nat.reduceMul, Int.reduceLT, Int.reduceLE, Int.reduceEq, Int.reduceNeg, h1, Int.not_le.2 h1]
      · simp (maxSteps := 2000000) only [go_sem, ↓reduceIte, Nat.reduceLT, Nat.reduceEqDiff, Nat.reduceLeDiff, Nat.reduceAdd, Nat.reduceSub, Nat.reduceMul, Int.reduceLT, Int.reduceLE, Int.reduceEq, Int.reduceNeg, h1, Int.not_lt.1 h1, wrap_succ (show i < 9223372036854775807 by omega)]
        exact ih

theorem r20_Valid_spec {f : SlF} {c : List Int} {lv : List Nat} {σ : Sto} {R : Post} : Cw T true i_r20_Valid [ints f c] lv σ R ↔ R (.bool (valid c)) σ := by
  refine cw_intro T_r20_Valid (by simp only [go_sem]) (by simp) ?_; rw [run_unfold r20_Valid.main.eq_1]
  simp (maxSteps := 2000000) only [go_sem, ↓reduceIte, Nat.reduceLT, Nat.reduceEqDiff, Nat.reduceLeDiff, Nat.reduceAdd, Nat.reduceSub, Nat.reduceMul, Int.reduceLT, Int.reduceLE, Int.reduceEq, Int.reduceNeg, valid]
  by_cases hl : (c.length : Int) = 6
  · have hl' : c.length = 6 := by omega
    simp (maxSteps := 2000000) only [go_sem, ↓reduceIte, Nat.reduceLT, Nat.reduceEqDiff, Nat.reduceLeDiff, Nat.reduceAdd, Nat.reduceSub, Nat.reduceMul, Int.reduceLT, Int.reduceLE, Int.reduceEq, Int.reduceNeg, hl, hl']
    exact r20_Valid_loop hl' 0 (by omega)
  · have hl' : ¬ c.length = 6 := by omega
    simp (maxSteps := 2000000) only [go_sem, ↓reduceIte, Nat.reduceLT, Nat.reduceEqDiff, Nat.reduceLeDiff, Nat.reduceAdd, Nat.reduceSub, Nat.reduceMul, Int.reduceLT, Int.reduceLE, Int.reduceEq, Int.reduceNeg, hl, hl']
@[go_sem] theorem r20_Valid_call {f : SlF} {c : List Int} {Q : Post3} {k : List Item} {os : List AOper} {d : Option Nat} {e : Env} {σ : Sto} : CallK T Q k os d e σ true i_r20_Valid [ints f c] ↔ Run T Q (.ops os :: k) (put e d (.bool (valid c))) σ := r20_Valid_spec


theorem cut_Valid_1_spec {n : Int} {lv : List Nat} {σ : Sto} {R : Post} : Cw T true i_cut_Valid_1 [.int .i64 n] lv σ R ↔ R (.bool (!okSeq n)) σ := by
  refine cw_intro T_cut_Valid_1 (by simp only [go_sem]) (by simp) ?_; rw [run_unfold cut_Valid_1.main.eq_1]
  simp (maxSteps := 2000000) only [go_sem, ↓reduceIte, Nat.reduceLT, Nat.reduceEqDiff, Nat.reduceLeDiff, Nat.reduceAdd, Nat.reduceSub, Nat.reduceMul, Int.reduceLT, Int.reduceLE, Int.reduceEq, Int.reduceNeg, okSeq]
  by_cases h0 : n < 0
  · simp (maxSteps := 2000000) only [go_sem, ↓reduceIte, Nat.reduceLT, Nat.reduceEqDiff, Nat.reduceLeDiff, Nat.reduceAdd, Nat.reduceSub, Nat.reduceMul, Int.reduceLT, Int.reduceLE, Int.reduceEq, Int.reduceNeg, h0, Int.not_le.2 h0]
  · simp (maxSteps := 2000000) only [go_sem, ↓reduceIte, Nat.reduceLT, Nat.reduceEqDiff, Nat.reduceLeDiff, Nat.reduceAdd, Nat.reduceSub, Nat.reduceMul, Int.reduceLT, Int.reduceLE, Int.reduceEq, Int.reduceNeg, h0, Int.not_lt.1 h0]
    by_cases h1 : 999 < n
    · simp (maxSteps := 2000000) only [go_sem, ↓reduceIte, Nat.reduceLT, Nat.reduceEqDiff, Nat.reduceLeDiff, Nat.reduceAdd, Nat.reduceSub, Nat.reduceMul, Int.reduceLT, Int.reduceLE, Int.reduceEq, Int.reduceNeg, h1, Int.not_le.2 h1]
    · simp (maxSteps := 2000000) only [go_sem, ↓reduceIte, Nat.reduceLT, Nat.reduceEqDiff, Nat.reduceLeDiff, Nat.reduceAdd, Nat.reduceSub, Nat.reduceMul, Int.reduceLT, Int.reduceLE, Int.reduceEq, Int.reduceNeg, h1, Int.not_lt.1 h1]
@[go_sem] theorem cut_Valid_1_call {n : Int} {Q : Post3} {k : List Item} {os : List AOper} {d : Option Nat} {e : Env} {σ : Sto} : CallK T Q k os d e σ true i_cut_Valid_1 [.int .i64 n] ↔ Run T Q (.ops os :: k) (put e d (.bool (!okSeq n))) σ := cut_Valid_1_spec


def idxOf {α : Type} (p : α → Bool) (l : List α) : Int := match l.findIdx? p with
  | some i => i
  | none => -1

theorem slices_IndexFunc_int_loop {f : SlF} {c : List Int} (hc : Fits c) {g : FuncId} {fs cs : List AVal} {p : Int → Bool} (hg : ∀ {x : Int} {lv : List Nat} {σ : Sto} {R : Post}, Cw T true g (fs ++ [.int .i64 x] ++ cs) lv σ R ↔ R (.bool (p x)) σ) : ∀ i, i ≤ c.length →
    Run T (Res [.tmp 4] (.int .i64 (match (c.drop i).findIdx? p with | some j => (i + j : Nat) | none => -1))) (.inLoop slices_IndexFunc_int.b0 :: slices_IndexFunc_int.k0) (mkE 19 [(0, ints f c), (1, .clo (.func g) fs cs), (7, .int .i64 c.length), (8, .int .i64 i)]) [] := by
  refine up_ind ?_ fun i hi ih => ?_
  · rw [run_round, run_unfold slices_IndexFunc_int.b0.eq_1]
    simp (maxSteps := 2000000) only [go_sem, ↓reduceIte, Nat.reduceLT, Nat.reduceEqDiff, Nat.reduceLeDiff, Nat.reduceAdd, Nat.reduceSub, Nat.reduceMul, Int.reduceLT, Int.reduceLE, Int.reduceEq, Int.reduceNeg, Nat.lt_irrefl, run_unfold slices_IndexFunc_int.c0.eq_1, run_unfold slices_IndexFunc_int.c1.eq_1, slices_IndexFunc_int.k0, List.drop_length, List.findIdx?_nil]
  · rw [run_round, run_unfold slices_IndexFunc_int.b0.eq_1]
    rw [List.drop_eq_getElem_cons hi]
    simp (maxSteps := 2000000) only [go_sem, ↓reduceIte, Nat.reduceLT, Nat.reduceEqDiff, Nat.reduceLeDiff, Nat.reduceAdd, Nat.reduceSub, Nat.reduceMul, Int.reduceLT, Int.reduceLE, Int.reduceEq, Int.reduceNeg, hi, List.findIdx?_cons]
    simp only [← List.append_assoc, callK_of hg]
    simp (maxSteps := 2000000) only [go_sem, ↓reduceIte, Nat.reduceLT, Nat.reduceEqDiff, Nat.reduceLeDiff, Nat.reduceAdd, Nat.reduceSub, Nat.reduceMul, Int.reduceLT, Int.reduceLE, Int.reduceEq, Int.reduceNeg]
    cases hp : p c[i]
    · simp (maxSteps := 2000000) only [go_sem, ↓reduceIte, Nat.reduceLT, Nat.reduceEqDiff, Nat.reduceLeDiff, Nat.reduceAdd, Nat.reduceSub, Nat.reduceMul, Int.reduceLT, Int.reduceLE, Int.reduceEq, Int.reduceNeg, wrap_succ (show i < 9223372036854775807 by omega)]
      refine Eq.mp (congrArg (fun v => Run T (Res [.tmp 4] (.int .i64 v)) _ _ _) ?_) ih
      cases (c.drop (i + 1)).findIdx? p with
      | none => rfl
      | some j => simp; omega
    · simp (maxSteps := 2000000) only [go_sem, ↓reduceIte, Nat.reduceLT, Nat.reduceEqDiff, Nat.reduceLeDiff, Nat.reduceAdd, Nat.reduceSub, Nat.reduceMul, Int.reduceLT, Int.reduceLE, Int.reduceEq, Int.reduceNeg, Nat.add_zero]

theorem slices_IndexFunc_int_spec {f : SlF} {c : List Int} (hc : Fits c) {g : FuncId} {fs cs : List AVal} {p : Int → Bool} (hg : ∀ {x : Int} {lv : List Nat} {σ : Sto} {R : Post}, Cw T true g (fs ++ [.int .i64 x] ++ cs) lv σ R ↔ R (.bool (p x)) σ)
    (h1 : AVal.pures fs = true) (h2 : AVal.pures cs = true) {lv : List Nat} {σ : Sto} {R : Post} : Cw T true i_slices_IndexFunc_int [ints f c, .clo (.func g) fs cs] lv σ R ↔ R (.int .i64 (idxOf p c)) σ := by
  refine cw_intro T_slices_IndexFunc_int (by simp (maxSteps := 2000000) only [go_sem, ↓reduceIte, Nat.reduceLT, Nat.reduceEqDiff, Nat.reduceLeDiff, Nat.reduceAdd, Nat.reduceSub, Nat.reduceMul, Int.reduceLT, Int.reduceLE, Int.reduceEq, Int.reduceNeg, h1, h2]) (by simp) ?_
  rw [run_unfold slices_IndexFunc_int.main.eq_1]
  simp (maxSteps := 2000000) only [go_sem, ↓reduceIte, Nat.reduceLT, Nat.reduceEqDiff, Nat.reduceLeDiff, Nat.reduceAdd, Nat.reduceSub, Nat.reduceMul, Int.reduceLT, Int.reduceLE, Int.reduceEq, Int.reduceNeg]
  have := slices_IndexFunc_int_loop (f := f) hc hg 0 (by omega)
  simp only [List.drop_zero, Nat.zero_add] at this
  exact this

theorem any_idx {α : Type} (p : α → Bool) (l : List α) : decide (0 ≤ idxOf p l) = l.any p := by
  unfold idxOf
  cases h : l.findIdx? p with
  | none =>
    rw [List.findIdx?_eq_none_iff] at h
    have : l.any p = false := by rw [List.any_eq_false]; intro x hx; simp [h x hx]
    rw [this]; rfl
  | some i =>
    have : l.any p = true := by
      rw [List.any_eq_true]
      obtain ⟨hi, hp, _⟩ := List.findIdx?_eq_some_iff_getElem.1 h
      exact ⟨l[i], List.getElem_mem hi, hp⟩
    rw [this]; simp

theorem slices_ContainsFunc_int_spec {f : SlF} {c : List Int} (hc : Fits c) {g : FuncId} {fs cs : List AVal} {p : Int → Bool} (hg : ∀ {x : Int} {lv : List Nat} {σ : Sto} {R : Post}, Cw T true g (fs ++ [.int .i64 x] ++ cs) lv σ R ↔ R (.bool (p x)) σ)
    (h1 : AVal.pures fs = true) (h2 : AVal.pures cs = true) {lv : List Nat} {σ : Sto} {R : Post} : Cw T true i_slices_ContainsFunc_int [ints f c, .clo (.func g) fs cs] lv σ R ↔ R (.bool (c.any p)) σ := by
  refine cw_intro T_slices_ContainsFunc_int (by simp (maxSteps := 2000000) only [go_sem, ↓reduceIte, Nat.reduceLT, Nat.reduceEqDiff, Nat.reduceLeDiff, Nat.reduceAdd, Nat.reduceSub, Nat.reduceMul, Int.reduceLT, Int.reduceLE, Int.reduceEq, Int.reduceNeg, h1, h2]) (by simp) ?_
  rw [run_unfold slices_ContainsFunc_int.main.eq_1]
  simp (maxSteps := 2000000) only [go_sem, ↓reduceIte, Nat.reduceLT, Nat.reduceEqDiff, Nat.reduceLeDiff, Nat.reduceAdd, Nat.reduceSub, Nat.reduceMul, Int.reduceLT, Int.reduceLE, Int.reduceEq, Int.reduceNeg, callK_of (slices_IndexFunc_int_spec hc hg h1 h2), any_idx]

@[go_sem] theorem slices_ContainsFunc_Valid {f : SlF} {c : List Int} (hc : Fits c) {Q : Post3} {k : List Item} {os : List AOper} {d : Option Nat} {e : Env} {σ : Sto} : CallK T Q k os d e σ true i_slices_ContainsFunc_int [ints f c, .clo (.func i_cut_Valid_1) [] []] ↔ Run T Q (.ops os :: k) (put e d (.bool (c.any fun n => !okSeq n))) σ :=
  callK_of <| slices_ContainsFunc_int_spec hc (fs := []) (cs := []) (by intros; exact cut_Valid_1_spec) rfl rfl

theorem cut_Valid_spec {f : SlF} {c : List Int} {lv : List Nat} {σ : Sto} {R : Post} : Cw T true i_cut_Valid [ints f c] lv σ R ↔ R (.bool (valid c)) σ := by
  refine cw_intro T_cut_Valid (by simp only [go_sem]) (by simp) ?_; rw [run_unfold cut_Valid.main.eq_1]
  simp (maxSteps := 2000000) only [go_sem, ↓reduceIte, Nat.reduceLT, Nat.reduceEqDiff, Nat.reduceLeDiff, Nat.reduceAdd, Nat.reduceSub, Nat.reduceMul, Int.reduceLT, Int.reduceLE, Int.reduceEq, Int.reduceNeg, valid]
  by_cases hl : (c.length : Int) = 6
  · have hl' : c.length = 6 := by omega
    have hc : Fits c := by unfold Fits; omega
    simp (maxSteps := 2000000) only [go_sem, ↓reduceIte, Nat.reduceLT, Nat.reduceEqDiff, Nat.reduceLeDiff, Nat.reduceAdd, Nat.reduceSub, Nat.reduceMul, Int.reduceLT, Int.reduceLE, Int.reduceEq, Int.reduceNeg, hl, hl', hc, List.all_eq_not_any_not]
  · have hl' : ¬ c.length = 6 := by omega
    simp (maxSteps := 2000000) only [go_sem, ↓reduceIte, Nat.reduceLT, Nat.reduceEqDiff, Nat.reduceLeDiff, Nat.reduceAdd, Nat.reduceSub, Nat.reduceMul, Int.reduceLT, Int.reduceLE, Int.reduceEq, Int.reduceNeg, hl, hl']
@[go_sem] theorem cut_Valid_call {f : SlF} {c : List Int} {Q : Post3} {k : List Item} {os : List AOper} {d : Option Nat} {e : Env} {σ : Sto} : CallK T Q k os d e σ true i_cut_Valid [ints f c] ↔ Run T Q (.ops os :: k) (put e d (.bool (valid c))) σ := cut_Valid_spec


def leq (a b : List Int) : Bool := valid a && valid b && (a.zip b).all fun p => decide (p.1 ≤ p.2)

theorem valid_len {a : List Int} (h : valid a = true) : a.length = 6 := by
  simp only [valid, Bool.and_eq_true, decide_eq_true_eq] at h; exact h.1

theorem drop_zip {α β : Type} {a : List α} {b : List β} {i : Nat} (h1 : i < a.length) (h2 : i < b.length) : (a.zip b).drop i = (a[i], b[i]) :: (a.zip b).drop (i + 1) := by
  have : i < (a.zip b).length := by simp; omega
  rw [List.drop_eq_getElem_cons this]; simp

theorem cut_Leq_loop {f g : SlF} {a b : List Int} (ha : a.length = 6) (hb : b.length = 6) : ∀ i, i ≤ 6 →
    Run T (Res [.tmp 4] (.bool (((a.zip b).drop i).all fun p => decide (p.1 ≤ p.2)))) (.inLoop cut_Leq.b0 :: cut_Leq.k0) (mkE 27 [(0, ints f a), (1, ints g b), (14, .int .i64 i)]) [] := by
  refine up_ind ?_ fun i hi ih => ?_
  · rw [run_round, run_unfold cut_Leq.b0.eq_1]
    rw [List.drop_eq_nil_of_le (by simp; omega)]
    simp (maxSteps := 2000000) only [go_sem, ↓reduceIte, Nat.reduceLT, Nat.reduceEqDiff, Nat.reduceLeDiff, Nat.reduceAdd, Nat.reduceSub, Nat.reduceMul, Int.reduceLT, Int.reduceLE, Int.reduceEq, Int.reduceNeg, run_unfold cut_Leq.c0.eq_1, run_unfold cut_Leq.c1.eq_1, cut_Leq.k0]
  · rw [run_round, run_unfold cut_Leq.b0.eq_1]
    have h1 : i < a.length := by omega
    have h2 : i < b.length := by omega
    rw [drop_zip h1 h2]
    simp (maxSteps := 2000000) only [go_sem, ↓reduceIte, Nat.reduceLT, Nat.reduceEqDiff, Nat.reduceLeDiff, Nat.reduceAdd, Nat.reduceSub, Nat.reduceMul, Int.reduceLT, Int.reduceLE, Int.reduceEq, Int.reduceNeg, show ((i : Int) < 6) by omega, h1, h2]
    by_cases h : b[i] < a[i]
    · simp (maxSteps := 2000000) only [go_sem, ↓reduceIte, Nat.reduceLT, Nat.reduceEqDiff, Nat.reduceLeDiff, Nat.reduceAdd, Nat.reduceSub, Nat.reduceMul, Int.reduceLT, Int.reduceLE, Int.reduceEq, Int.reduceNeg, h, Int.not_le.2 h]
    · simp (maxSteps := 2000000) only [go_sem, ↓reduceIte, Nat.reduceLT, Nat.reduceEqDiff, Nat.reduceLeDiff, Nat.reduceAdd, Nat.reduceSub, Nat.reduceMul, Int.reduceLT, Int.reduceLE, Int.reduceEq, Int.reduceNeg, h, Int.not_lt.1 h, wrap_succ (show i < 9223372036854775807 by omega)]
      exact ih

theorem cut_Leq_spec {f g : SlF} {a b : List Int} {lv : List Nat} {σ : Sto} {R : Post} : Cw T true i_cut_Leq [ints f a, ints g b] lv σ R ↔ R (.bool (leq a b)) σ := by
  refine cw_intro T_cut_Leq (by simp only [go_sem]) (by simp) ?_; rw [run_unfold cut_Leq.main.eq_1]
  simp (maxSteps := 2000000) only [go_sem, ↓reduceIte, Nat.reduceLT, Nat.reduceEqDiff, Nat.reduceLeDiff, Nat.reduceAdd, Nat.reduceSub, Nat.reduceMul, Int.reduceLT, Int.reduceLE, Int.reduceEq, Int.reduceNeg, leq]
  cases ha : valid a
  · simp (maxSteps := 2000000) only [go_sem, ↓reduceIte, Nat.reduceLT, Nat.reduceEqDiff, Nat.reduceLeDiff, Nat.reduceAdd, Nat.reduceSub, Nat.reduceMul, Int.reduceLT, Int.reduceLE, Int.reduceEq, Int.reduceNeg]
  · cases hb : valid b
    · simp (maxSteps := 2000000) only [go_sem, ↓reduceIte, Nat.reduceLT, Nat.reduceEqDiff, Nat.reduceLeDiff, Nat.reduceAdd, Nat.reduceSub, Nat.reduceMul, Int.reduceLT, Int.reduceLE, Int.reduceEq, Int.reduceNeg]
    · simp (maxSteps := 2000000) only [go_sem, ↓reduceIte, Nat.reduceLT, Nat.reduceEqDiff, Nat.reduceLeDiff, Nat.reduceAdd, Nat.reduceSub, Nat.reduceMul, Int.reduceLT, Int.reduceLE, Int.reduceEq, Int.reduceNeg]
      exact cut_Leq_loop (valid_len ha) (valid_len hb) 0 (by omega)
@[go_sem] theorem cut_Leq_call {f g : SlF} {a b : List Int} {Q : Post3} {k : List Item} {os : List AOper} {d : Option Nat} {e : Env} {σ : Sto} : CallK T Q k os d e σ true i_cut_Leq [ints f a, ints g b] ↔ Run T Q (.ops os :: k) (put e d (.bool (leq a b))) σ := cut_Leq_spec


theorem r20_Leq_loop {f g : SlF} {a b : List Int} (ha : a.length = 6) (hb : b.length = 6) : ∀ i, i ≤ 6 →
    Run T (Res [.tmp 4] (.bool (((a.zip b).drop i).all fun p => decide (p.1 ≤ p.2)))) (.inLoop r20_Leq.b0 :: r20_Leq.k0) (mkE 29 [(0, ints f a), (1, ints g b), (5, .int .i64 i)]) [] := by
  refine up_ind ?_ fun i hi ih => ?_
  · rw [run_round, run_unfold r20_Leq.b0.eq_1]
    rw [List.drop_eq_nil_of_le (by simp; omega)]
    simp (maxSteps := 2000000) only [go_sem, ↓reduceIte, Nat.reduceLT, Nat.reduceEqDiff, Nat.reduceLeDiff, Nat.reduceAdd, Nat.reduceSub, Nat.reduceMul, Int.reduceLT, Int.reduceLE, Int.reduceEq, Int.reduceNeg, run_unfold r20_Leq.c0.eq_1, run_unfold r20_Leq.c1.eq_1, r20_Leq.k0, ha]
  · rw [run_round, run_unfold r20_Leq.b0.eq_1]
    have h1 : i < a.length := by omega
    have h2 : i < b.length := by omega
    rw [drop_zip h1 h2]
    simp (maxSteps := 2000000) only [go_sem, ↓reduceIte, Nat.reduceLT, Nat.reduceEqDiff, Nat.reduceLeDiff, Nat.reduceAdd, Nat.reduceSub, Nat.reduceMul, Int.reduceLT, Int.reduceLE, Int.reduceEq, Int.reduceNeg, h1, h2]
    by_cases h : b[i] < a[i]
    · simp (maxSteps := 2000000) only [go_sem, ↓reduceIte, Nat.reduceLT, Nat.reduceEqDiff, Nat.reduceLeDiff, Nat.reduceAdd, Nat.reduceSub, Nat.reduceMul, Int.reduceLT, Int.reduceLE, Int.reduceEq, Int.reduceNeg, h, Int.not_le.2 h]
    · simp (maxSteps := 2000000) only [go_sem, ↓reduceIte, Nat.reduceLT, Nat.reduceEqDiff, Nat.reduceLeDiff, Nat.reduceAdd, Nat.reduceSub, Nat.reduceMul, Int.reduceLT, Int.reduceLE, Int.reduceEq, Int.reduceNeg, h, Int.not_lt.1 h, wrap_succ (show i < 9223372036854775807 by omega)]
      exact ih

theorem r20_Leq_spec {f g : SlF} {a b : List Int} {lv : List Nat} {σ : Sto} {R : Post} : Cw T true i_r20_Leq [ints f a, ints g b] lv σ R ↔ R (.bool (leq a b)) σ := by
  refine cw_intro T_r20_Leq (by simp only [go_sem]) (by simp) ?_; rw [run_unfold r20_Leq.main.eq_1]
  simp (maxSteps := 2000000) only [go_sem, ↓reduceIte, Nat.reduceLT, Nat.reduceEqDiff, Nat.reduceLeDiff, Nat.reduceAdd, Nat.reduceSub, Nat.reduceMul, Int.reduceLT, Int.reduceLE, Int.reduceEq, Int.reduceNeg, leq]
  cases ha : valid a
  · simp (maxSteps := 2000000) only [go_sem, ↓reduceIte, Nat.reduceLT, Nat.reduceEqDiff, Nat.reduceLeDiff, Nat.reduceAdd, Nat.reduceSub, Nat.reduceMul, Int.reduceLT, Int.reduceLE, Int.reduceEq, Int.reduceNeg]
  · cases hb : valid b
    · simp (maxSteps := 2000000) only [go_sem, ↓reduceIte, Nat.reduceLT, Nat.reduceEqDiff, Nat.reduceLeDiff, Nat.reduceAdd, Nat.reduceSub, Nat.reduceMul, Int.reduceLT, Int.reduceLE, Int.reduceEq, Int.reduceNeg]
    · simp (maxSteps := 2000000) only [go_sem, ↓reduceIte, Nat.reduceLT, Nat.reduceEqDiff, Nat.reduceLeDiff, Nat.reduceAdd, Nat.reduceSub, Nat.reduceMul, Int.reduceLT, Int.reduceLE, Int.reduceEq, Int.reduceNeg]
      exact r20_Leq_loop (valid_len ha) (valid_len hb) 0 (by omega)
@[go_sem] theorem r20_Leq_call {f g : SlF} {a b : List Int} {Q : Post3} {k : List Item} {os : List AOper} {d : Option Nat} {e : Env} {σ : Sto} : CallK T Q k os d e σ true i_r20_Leq [ints f a, ints g b] ↔ Run T Q (.ops os :: k) (put e d (.bool (leq a b))) σ := r20_Leq_spec


end Go.Abs
