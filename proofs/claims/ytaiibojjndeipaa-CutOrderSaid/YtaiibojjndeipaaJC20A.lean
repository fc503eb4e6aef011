/- Parts of the proof: C20A, C20B, C20C, C20D, C20G, C20H, C20I, C20J, C20K, C20L, AbsEval. -/
import Derived.Test.YtaiibojjndeipaaC20F
import Derived.Test.YtaiibojjndeipaaAbsVal
import Derived.Test.YtaiibojjndeipaaJAbsCore
set_option linter.all false
/- Walks of chapter 20: the first functions. -/
set_option linter.unusedSimpArgs false
set_option linter.unusedVariables false
namespace Go.Abs
open Go

abbrev int (n : Int) : AVal := .int .i64 n
abbrev ints (f : SlF) (c : List Int) : AVal := sv 1 f (c.map fun n => .int .i64 n)
@[go_sem] theorem ints_nil : ints .nil [] = .nils := rfl
abbrev Fits {α : Type} (l : List α) : Prop := l.length < 9223372036854775808

def okSeq (n : Int) : Bool := decide (0 ≤ n) && decide (n ≤ 999)
def valid (c : List Int) : Bool := decide (c.length = 6) && c.all okSeq

theorem r20_Valid_loop {f : SlF} {c : List Int} (hl : c.length = 6) : ∀ i, i ≤ c.length →
    Run T (Res [.tmp 2] (.bool ((c.drop i).all okSeq))) (.inLoop r20_Valid.b0 :: r20_Valid.k0) (mkE 25 [(0, ints f c), (3, .int .i64 i)]) [] := by
  refine up_ind ?_ fun i hi ih => ?_
  · rw [run_round, run_unfold r20_Valid.b0.eq_1]
    simp (maxSteps := 2000000) only [go_sem, ↓reduceIte, Nat.reduceLT, Nat.reduceEqDiff, Nat.reduceLeDiff, Nat.reduceAdd, Nat.reduceSub, Nat.reduceMul, Int.reduceLT, Int.reduceLE, Int.reduceEq, Int.reduceNeg, Nat.lt_irrefl, r20_Valid.k0, run_unfold r20_Valid.c0.eq_1, List.drop_length]
  · rw [run_round, run_unfold r20_Valid.b0.eq_1]
    rw [List.drop_eq_getElem_cons hi]
    simp (maxSteps := 2000000) only [go_sem, ↓reduceIte, Nat.reduceLT, Nat.reduceEqDiff, Nat.reduceLeDiff, Nat.reduceAdd, Nat.reduceSub, Nat.reduceMul, Int.reduceLT, Int.reduceLE, Int.reduceEq, Int.reduceNeg, hi, okSeq]
    by_cases h0 : c[i] < 0
    · simp (maxSteps := 2000000) only [go_sem, ↓reduceIte, Nat.reduceLT, Nat.reduceEqDiff, Nat.reduceLeDiff, Nat.reduceAdd, Nat.reduceSub, Nat.reduceMul, Int.reduceLT, Int.reduceLE, Int.reduceEq, Int.reduceNeg, h0, Int.not_le.2 h0]
    · simp (maxSteps := 2000000) only [go_sem, ↓reduceIte, Nat.reduceLT, Nat.reduceEqDiff, Nat.reduceLeDiff, Nat.reduceAdd, Nat.reduceSub, Nat.reduceMul, Int.reduceLT, Int.reduceLE, Int.reduceEq, Int.reduceNeg, hi, h0, Int.not_lt.1 h0]
      by_cases h1 : 999 < c[i]
      · simp (maxSteps := 2000000) only [go_sem, ↓reduceIte, Nat.reduceLT, Nat.reduceEqDiff, Nat.reduceLeDiff, Nat.reduceAdd, Nat.reduceSub, Nat.reduceMul, Int.reduceLT, Int.reduceLE, Int.reduceEq, Int.reduceNeg, h1, Int.not_le.2 h1]
      · simp (maxSteps := 2000000) only [go_sem, ↓reduceIte, Nat.reduceLT, Nat.reduceEqDiff, Nat.reduceLeDiff, Nat.reduceAdd, Nat.reduceSub, Nat.reduceMul, Int.reduceLT, Int.reduceLE, Int.reduceEq, Int.reduceNeg, h1, Int.not_lt.1 h1, wrap_succ (show i < 9223372036854775807 by omega)]
        exact ih

theorem r20_Valid_spec {f : SlF} {c : List Int} {lv : List Nat} {σ : Sto} {R : Post} : Cw T true i_r20_Valid [ints f c] lv σ R ↔ R (.bool (valid c)) σ := by
  refine cw_intro T_r20_Valid (by simp only [go_sem]) (by simp) ?_; rw [run_unfold r20_Valid.main.eq_1]
  simp (maxSteps := 2000000) only [go_sem, ↓reduceIte, Nat.reduceLT, Nat.reduceEqDiff, Nat.reduceLeDiff, Nat.reduceAdd, Nat.reduceSub, Nat.reduceMul, Int.reduceLT, Int.reduceLE, Int.reduceEq, Int.reduceNeg, valid]
  by_cases hl : (c.length : Int) = 6
  · have hl' : c.length = 6 := by omega
    simp (maxSteps := 2000000) only [go_sem, ↓reduceIte, Nat.reduceLT, Nat.reduceEqDiff, Nat.reduceLeDiff, Nat.reduceAdd, Nat.reduceSub, Nat.reduceMul, Int.reduceLT, Int.reduceLE, Int.reduceEq, Int.reduceNeg, hl, hl']
    exact r20_Valid_loop hl' 0 (by omega)
  · have hl' : ¬ c.length = 6 := by omega
    simp (maxSteps := 2000000) only [go_sem, ↓reduceIte, Nat.reduceLT, Nat.reduceEqDiff, Nat.reduceLeDiff, Nat.reduceAdd, Nat.reduceSub, Nat.reduceMul, Int.reduceLT, Int.reduceLE, Int.reduceEq, Int.reduceNeg, hl, hl']
@[go_sem] theorem r20_Valid_call {f : SlF} {c : List Int} {Q : Post3} {k : List Item} {os : List AOper} {d : Option Nat} {e : Env} {σ : Sto} : CallK T Q k os d e σ true i_r20_Valid [ints f c] ↔ Run T Q (.ops os :: k) (put e d (.bool (valid c))) σ := r20_Valid_spec


theorem cut_Valid_1_spec {n : Int} {lv : List Nat} {σ : Sto} {R : Post} : Cw T true i_cut_Valid_1 [.int .i64 n] lv σ R ↔ R (.bool (!okSeq n)) σ := by
  refine cw_intro T_cut_Valid_1 (by simp only [go_sem]) (by simp) ?_; rw [run_unfold cut_Valid_1.main.eq_1]
  simp (maxSteps := 2000000) only [go_sem, ↓reduceIte, Nat.reduceLT, Nat.reduceEqDiff, Nat.reduceLeDiff, Nat.reduceAdd, Nat.reduceSub, Nat.reduceMul, Int.reduceLT, Int.reduceLE, Int.reduceEq, Int.reduceNeg, okSeq]
  by_cases h0 : n < 0
  · simp (maxSteps := 2000000) only [go_sem, ↓reduceIte, Nat.reduceLT, Nat.reduceEqDiff, Nat.reduceLeDiff, Nat.reduceAdd, Nat.reduceSub, Nat.reduceMul, Int.reduceLT, Int.reduceLE, Int.reduceEq, Int.reduceNeg, h0, Int.not_le.2 h0]
  · simp (maxSteps := 2000000) only [go_sem, ↓reduceIte, Nat.reduceLT, Nat.reduceEqDiff, Nat.reduceLeDiff, Nat.reduceAdd, Nat.reduceSub, Nat.reduceMul, Int.reduceLT, Int.reduceLE, Int.reduceEq, Int.reduceNeg, h0, Int.not_lt.1 h0]
    by_cases h1 : 999 < n
    · simp (maxSteps := 2000000) only [go_sem, ↓reduceIte, Nat.reduceLT, Nat.reduceEqDiff, Nat.reduceLeDiff, Nat.reduceAdd, Nat.reduceSub, Nat.reduceMul, Int.reduceLT, Int.reduceLE, Int.reduceEq, Int.reduceNeg, h1, Int.not_le.2 h1]
    · simp (maxSteps := 2000000) only [go_sem, ↓reduceIte, Nat.reduceLT, Nat.reduceEqDiff, Nat.reduceLeDiff, Nat.reduceAdd, Nat.reduceSub, Nat.reduceMul, Int.reduceLT, Int.reduceLE, Int.reduceEq, Int.reduceNeg, h1, Int.not_lt.1 h1]
@[go_sem] theorem cut_Valid_1_call {n : Int} {Q : Post3} {k : List Item} {os : List AOper} {d : Option Nat} {e : Env} {σ : Sto} : CallK T Q k os d e σ true i_cut_Valid_1 [.int .i64 n] ↔ Run T Q (.ops os :: k) (put e d (.bool (!okSeq n))) σ := cut_Valid_1_spec


def idxOf {α : Type} (p : α → Bool) (l : List α) : Int := match l.findIdx? p with
  | some i => i
  | none => -1

theorem slices_IndexFunc_int_loop {f : SlF} {c : List Int} (hc : Fits c) {g : FuncId} {fs cs : List AVal} {p : Int → Bool} (hg : ∀ {x : Int} {lv : List Nat} {σ : Sto} {R : Post}, Cw T true g (fs ++ [.int .i64 x] ++ cs) lv σ R ↔ R (.bool (p x)) σ) : ∀ i, i ≤ c.length →
    Run T (Res [.tmp 4] (.int .i64 (match (c.drop i).findIdx? p with | some j => (i + j : Nat) | none => -1))) (.inLoop slices_IndexFunc_int.b0 :: slices_IndexFunc_int.k0) (mkE 19 [(0, ints f c), (1, .clo (.func g) fs cs), (7, .int .i64 c.length), (8, .int .i64 i)]) [] := by
  refine up_ind ?_ fun i hi ih => ?_
  · rw [run_round, run_unfold slices_IndexFunc_int.b0.eq_1]
    simp (maxSteps := 2000000) only [go_sem, ↓reduceIte, Nat.reduceLT, Nat.reduceEqDiff, Nat.reduceLeDiff, Nat.reduceAdd, Nat.reduceSub, Nat.reduceMul, Int.reduceLT, Int.reduceLE, Int.reduceEq, Int.reduceNeg, Nat.lt_irrefl, run_unfold slices_IndexFunc_int.c0.eq_1, run_unfold slices_IndexFunc_int.c1.eq_1, slices_IndexFunc_int.k0, List.drop_length, List.findIdx?_nil]
  · rw [run_round, run_unfold slices_IndexFunc_int.b0.eq_1]
    rw [List.drop_eq_getElem_cons hi]
    simp (maxSteps := 2000000) only [go_sem, ↓reduceIte, Nat.reduceLT, Nat.reduceEqDiff, Nat.reduceLeDiff, Nat.reduceAdd, Nat.reduceSub, Nat.reduceMul, Int.reduceLT, Int.reduceLE, Int.reduceEq, Int.reduceNeg, hi, List.findIdx?_cons]
    simp only [← List.append_assoc, callK_of hg]
    simp (maxSteps := 2000000) only [go_sem, ↓reduceIte, Nat.reduceLT, Nat.reduceEqDiff, Nat.reduceLeDiff, Nat.reduceAdd, Nat.reduceSub, Nat.reduceMul, Int.reduceLT, Int.reduceLE, Int.reduceEq, Int.reduceNeg]
    cases hp : p c[i]
    · simp (maxSteps := 2000000) only [go_sem, ↓reduceIte, Nat.reduceLT, Nat.reduceEqDiff, Nat.reduceLeDiff, Nat.reduceAdd, Nat.reduceSub, Nat.reduceMul, Int.reduceLT, Int.reduceLE, Int.reduceEq, Int.reduceNeg, wrap_succ (show i < 9223372036854775807 by omega)]
      refine Eq.mp (congrArg (fun v => Run T (Res [.tmp 4] (.int .i64 v)) _ _ _) ?_) ih
      cases (c.drop (i + 1)).findIdx? p with
      | none => rfl
      | some j => simp; omega
    · simp (maxSteps := 2000000) only [go_sem, ↓reduceIte, Nat.reduceLT, Nat.reduceEqDiff, Nat.reduceLeDiff, Nat.reduceAdd, Nat.reduceSub, Nat.reduceMul, Int.reduceLT, Int.reduceLE, Int.reduceEq, Int.reduceNeg, Nat.add_zero]

theorem slices_IndexFunc_int_spec {f : SlF} {c : List Int} (hc : Fits c) {g : FuncId} {fs cs : List AVal} {p : Int → Bool} (hg : ∀ {x : Int} {lv : List Nat} {σ : Sto} {R : Post}, Cw T true g (fs ++ [.int .i64 x] ++ cs) lv σ R ↔ R (.bool (p x)) σ)
    (h1 : AVal.pures fs = true) (h2 : AVal.pures cs = true) {lv : List Nat} {σ : Sto} {R : Post} : Cw T true i_slices_IndexFunc_int [ints f c, .clo (.func g) fs cs] lv σ R ↔ R (.int .i64 (idxOf p c)) σ := by
  refine cw_intro T_slices_IndexFunc_int (by simp (maxSteps := 2000000) only [go_sem, ↓reduceIte, Nat.reduceLT, Nat.reduceEqDiff, Nat.reduceLeDiff, Nat.reduceAdd, Nat.reduceSub, Nat.reduceMul, Int.reduceLT, Int.reduceLE, Int.reduceEq, Int.reduceNeg, h1, h2]) (by simp) ?_
  rw [run_unfold slices_IndexFunc_int.main.eq_1]
  simp (maxSteps := 2000000) only [go_sem, ↓reduceIte, Nat.reduceLT, Nat.reduceEqDiff, Nat.reduceLeDiff, Nat.reduceAdd, Nat.reduceSub, Nat.reduceMul, Int.reduceLT, Int.reduceLE, Int.reduceEq, Int.reduceNeg]
  have := slices_IndexFunc_int_loop (f := f) hc hg 0 (by omega)
  simp only [List.drop_zero, Nat.zero_add] at this
  exact this

theorem any_idx {α : Type} (p : α → Bool) (l : List α) : decide (0 ≤ idxOf p l) = l.any p := by
  unfold idxOf
  cases h : l.findIdx? p with
  | none =>
    rw [List.findIdx?_eq_none_iff] at h
    have : l.any p = false := by rw [List.any_eq_false]; intro x hx; simp [h x hx]
    rw [this]; rfl
  | some i =>
    have : l.any p = true := by
      rw [List.any_eq_true]
      obtain ⟨hi, hp, _⟩ := List.findIdx?_eq_some_iff_getElem.1 h
      exact ⟨l[i], List.getElem_mem hi, hp⟩
    rw [this]; simp

theorem slices_ContainsFunc_int_spec {f : SlF} {c : List Int} (hc : Fits c) {g : FuncId} {fs cs : List AVal} {p : Int → Bool} (hg : ∀ {x : Int} {lv : List Nat} {σ : Sto} {R : Post}, Cw T true g (fs ++ [.int .i64 x] ++ cs) lv σ R ↔ R (.bool (p x)) σ)
    (h1 : AVal.pures fs = true) (h2 : AVal.pures cs = true) {lv : List Nat} {σ : Sto} {R : Post} : Cw T true i_slices_ContainsFunc_int [ints f c, .clo (.func g) fs cs] lv σ R ↔ R (.bool (c.any p)) σ := by
  refine cw_intro T_slices_ContainsFunc_int (by simp (maxSteps := 2000000) only [go_sem, ↓reduceIte, Nat.reduceLT, Nat.reduceEqDiff, Nat.reduceLeDiff, Nat.reduceAdd, Nat.reduceSub, Nat.reduceMul, Int.reduceLT, Int.reduceLE, Int.reduceEq, Int.reduceNeg, h1, h2]) (by simp) ?_
  rw [run_unfold slices_ContainsFunc_int.main.eq_1]
  simp (maxSteps := 2000000) only [go_sem, ↓reduceIte, Nat.reduceLT, Nat.reduceEqDiff, Nat.reduceLeDiff, Nat.reduceAdd, Nat.reduceSub, Nat.reduceMul, Int.reduceLT, Int.reduceLE, Int.reduceEq, Int.reduceNeg, callK_of (slices_IndexFunc_int_spec hc hg h1 h2), any_idx]

@[go_sem] theorem slices_ContainsFunc_Valid {f : SlF} {c : List Int} (hc : Fits c) {Q : Post3} {k : List Item} {os : List AOper} {d : Option Nat} {e : Env} {σ : Sto} : CallK T Q k os d e σ true i_slices_ContainsFunc_int [ints f c, .clo (.func i_cut_Valid_1) [] []] ↔ Run T Q (.ops os :: k) (put e d (.bool (c.any fun n => !okSeq n))) σ :=
  callK_of <| slices_ContainsFunc_int_spec hc (fs := []) (cs := []) (by intros; exact cut_Valid_1_spec) rfl rfl

theorem cut_Valid_spec {f : SlF} {c : List Int} {lv : List Nat} {σ : Sto} {R : Post} : Cw T true i_cut_Valid [ints f c] lv σ R ↔ R (.bool (valid c)) σ := by
  refine cw_intro T_cut_Valid (by simp only [go_sem]) (by simp) ?_; rw [run_unfold cut_Valid.main.eq_1]
  simp (maxSteps := 2000000) only [go_sem, ↓reduceIte, Nat.reduceLT, Nat.reduceEqDiff, Nat.reduceLeDiff, Nat.reduceAdd, Nat.reduceSub, Nat.reduceMul, Int.reduceLT, Int.reduceLE, Int.reduceEq, Int.reduceNeg, valid]
  by_cases hl : (c.length : Int) = 6
  · have hl' : c.length = 6 := by omega
    have hc : Fits c := by unfold Fits; omega
    simp (maxSteps := 2000000) only [go_sem, ↓reduceIte, Nat.reduceLT, Nat.reduceEqDiff, Nat.reduceLeDiff, Nat.reduceAdd, Nat.reduceSub, Nat.reduceMul, Int.reduceLT, Int.reduceLE, Int.reduceEq, Int.reduceNeg, hl, hl', hc, List.all_eq_not_any_not]
  · have hl' : ¬ c.length = 6 := by omega
    simp (maxSteps := 2000000) only [go_sem, ↓reduceIte, Nat.reduceLT, Nat.reduceEqDiff, Nat.reduceLeDiff, Nat.reduceAdd, Nat.reduceSub, Nat.reduceMul, Int.reduceLT, Int.reduceLE, Int.reduceEq, Int.reduceNeg, hl, hl']
@[go_sem] theorem cut_Valid_call {f : SlF} {c : List Int} {Q : Post3} {k : List Item} {os : List AOper} {d : Option Nat} {e : Env} {σ : Sto} : CallK T Q k os d e σ true i_cut_Valid [ints f c] ↔ Run T Q (.ops os :: k) (put e d (.bool (valid c))) σ := cut_Valid_spec


def leq (a b : List Int) : Bool := valid a && valid b && (a.zip b).all fun p => decide (p.1 ≤ p.2)

theorem valid_len {a : List Int} (h : valid a = true) : a.length = 6 := by
  simp only [valid, Bool.and_eq_true, decide_eq_true_eq] at h; exact h.1

theorem drop_zip {α β : Type} {a : List α} {b : List β} {i : Nat} (h1 : i < a.length) (h2 : i < b.length) : (a.zip b).drop i = (a[i], b[i]) :: (a.zip b).drop (i + 1) := by
  have : i < (a.zip b).length := by simp; omega
  rw [List.drop_eq_getElem_cons this]; simp

theorem cut_Leq_loop {f g : SlF} {a b : List Int} (ha : a.length = 6) (hb : b.length = 6) : ∀ i, i ≤ 6 →
    Run T (Res [.tmp 4] (.bool (((a.zip b).drop i).all fun p => decide (p.1 ≤ p.2)))) (.inLoop cut_Leq.b0 :: cut_Leq.k0) (mkE 27 [(0, ints f a), (1, ints g b), (14, .int .i64 i)]) [] := by
  refine up_ind ?_ fun i hi ih => ?_
  · rw [run_round, run_unfold cut_Leq.b0.eq_1]
    rw [List.drop_eq_nil_of_le (by simp; omega)]
    simp (maxSteps := 2000000) only [go_sem, ↓reduceIte, Nat.reduceLT, Nat.reduceEqDiff, Nat.reduceLeDiff, Nat.reduceAdd, Nat.reduceSub, Nat.reduceMul, Int.reduceLT, Int.reduceLE, Int.reduceEq, Int.reduceNeg, run_unfold cut_Leq.c0.eq_1, run_unfold cut_Leq.c1.eq_1, cut_Leq.k0]
  · rw [run_round, run_unfold cut_Leq.b0.eq_1]
    have h1 : i < a.length := by omega
    have h2 : i < b.length := by omega
    rw [drop_zip h1 h2]
    simp (maxSteps := 2000000) only [go_sem, ↓reduceIte, Nat.reduceLT, Nat.reduceEqDiff, Nat.reduceLeDiff, Nat.reduceAdd, Nat.reduceSub, Nat.reduceMul, Int.reduceLT, Int.reduceLE, Int.reduceEq, Int.reduceNeg, show ((i : Int) < 6) by omega, h1, h2]
    by_cases h : b[i] < a[i]
    · simp (maxSteps := 2000000) only [go_sem, ↓reduceIte, Nat.reduceLT, Nat.reduceEqDiff, Nat.reduceLeDiff, Nat.reduceAdd, Nat.reduceSub, Nat.reduceMul, Int.reduceLT, Int.reduceLE, Int.reduceEq, Int.reduceNeg, h, Int.not_le.2 h]
    · simp (maxSteps := 2000000) only [go_sem, ↓reduceIte, Nat.reduceLT, Nat.reduceEqDiff, Nat.reduceLeDiff, Nat.reduceAdd, Nat.reduceSub, Nat.reduceMul, Int.reduceLT, Int.reduceLE, Int.reduceEq, Int.reduceNeg, h, Int.not_lt.1 h, wrap_succ (show i < 9223372036854775807 by omega)]
      exact ih

theorem cut_Leq_spec {f g : SlF} {a b : List Int} {lv : List Nat} {σ : Sto} {R : Post} : Cw T true i_cut_Leq [ints f a, ints g b] lv σ R ↔ R (.bool (leq a b)) σ := by
  refine cw_intro T_cut_Leq (by simp only [go_sem]) (by simp) ?_; rw [run_unfold cut_Leq.main.eq_1]
  simp (maxSteps := 2000000) only [go_sem, ↓reduceIte, Nat.reduceLT, Nat.reduceEqDiff, Nat.reduceLeDiff, Nat.reduceAdd, Nat.reduceSub, Nat.reduceMul, Int.reduceLT, Int.reduceLE, Int.reduceEq, Int.reduceNeg, leq]
  cases ha : valid a
  · simp (maxSteps := 2000000) only [go_sem, ↓reduceIte, Nat.reduceLT, Nat.reduceEqDiff, Nat.reduceLeDiff, Nat.reduceAdd, Nat.reduceSub, Nat.reduceMul, Int.reduceLT, Int.reduceLE, Int.reduceEq, Int.reduceNeg]
  · cases hb : valid b
    · simp (maxSteps := 2000000) only [go_sem, ↓reduceIte, Nat.reduceLT, Nat.reduceEqDiff, Nat.reduceLeDiff, Nat.reduceAdd, Nat.reduceSub, Nat.reduceMul, Int.reduceLT, Int.reduceLE, Int.reduceEq, Int.reduceNeg]
    · simp (maxSteps := 2000000) only [go_sem, ↓reduceIte, Nat.reduceLT, Nat.reduceEqDiff, Nat.reduceLeDiff, Nat.reduceAdd, Nat.reduceSub, Nat.reduceMul, Int.reduceLT, Int.reduceLE, Int.reduceEq, Int.reduceNeg]
      exact cut_Leq_loop (valid_len ha) (valid_len hb) 0 (by omega)
@[go_sem] theorem cut_Leq_call {f g : SlF} {a b : List Int} {Q : Post3} {k : List Item} {os : List AOper} {d : Option Nat} {e : Env} {σ : Sto} : CallK T Q k os d e σ true i_cut_Leq [ints f a, ints g b] ↔ Run T Q (.ops os :: k) (put e d (.bool (leq a b))) σ := cut_Leq_spec


theorem r20_Leq_loop {f g : SlF} {a b : List Int} (ha : a.length = 6) (hb : b.length = 6) : ∀ i, i ≤ 6 →
    Run T (Res [.tmp 4] (.bool (((a.zip b).drop i).all fun p => decide (p.1 ≤ p.2)))) (.inLoop r20_Leq.b0 :: r20_Leq.k0) (mkE 29 [(0, ints f a), (1, ints g b), (5, .int .i64 i)]) [] := by
  refine up_ind ?_ fun i hi ih => ?_
  · rw [run_round, run_unfold r20_Leq.b0.eq_1]
    rw [List.drop_eq_nil_of_le (by simp; omega)]
    simp (maxSteps := 2000000) only [go_sem, ↓reduceIte, Nat.reduceLT, Nat.reduceEqDiff, Nat.reduceLeDiff, Nat.reduceAdd, Nat.reduceSub, Nat.reduceMul, Int.reduceLT, Int.reduceLE, Int.reduceEq, Int.reduceNeg, run_unfold r20_Leq.c0.eq_1, run_unfold r20_Leq.c1.eq_1, r20_Leq.k0, ha]
  · rw [run_round, run_unfold r20_Leq.b0.eq_1]
    have h1 : i < a.length := by omega
    have h2 : i < b.length := by omega
    rw [drop_zip h1 h2]
    simp (maxSteps := 2000000) only [go_sem, ↓reduceIte, Nat.reduceLT, Nat.reduceEqDiff, Nat.reduceLeDiff, Nat.reduceAdd, Nat.reduceSub, Nat.reduceMul, Int.reduceLT, Int.reduceLE, Int.reduceEq, Int.reduceNeg, h1, h2]
    by_cases h : b[i] < a[i]
    · simp (maxSteps := 2000000) only [go_sem, ↓reduceIte, Nat.reduceLT, Nat.reduceEqDiff, Nat.reduceLeDiff, Nat.reduceAdd, Nat.reduceSub, Nat.reduceMul, Int.reduceLT, Int.reduceLE, Int.reduceEq, Int.reduceNeg, h, Int.not_le.2 h]
    · simp (maxSteps := 2000000) only [go_sem, ↓reduceIte, Nat.reduceLT, Nat.reduceEqDiff, Nat.reduceLeDiff, Nat.reduceAdd, Nat.reduceSub, Nat.reduceMul, Int.reduceLT, Int.reduceLE, Int.reduceEq, Int.reduceNeg, h, Int.not_lt.1 h, wrap_succ (show i < 9223372036854775807 by omega)]
      exact ih

theorem r20_Leq_spec {f g : SlF} {a b : List Int} {lv : List Nat} {σ : Sto} {R : Post} : Cw T true i_r20_Leq [ints f a, ints g b] lv σ R ↔ R (.bool (leq a b)) σ := by
  refine cw_intro T_r20_Leq (by simp only [go_sem]) (by simp) ?_; rw [run_unfold r20_Leq.main.eq_1]
  simp (maxSteps := 2000000) only [go_sem, ↓reduceIte, Nat.reduceLT, Nat.reduceEqDiff, Nat.reduceLeDiff, Nat.reduceAdd, Nat.reduceSub, Nat.reduceMul, Int.reduceLT, Int.reduceLE, Int.reduceEq, Int.reduceNeg, leq]
  cases ha : valid a
  · simp (maxSteps := 2000000) only [go_sem, ↓reduceIte, Nat.reduceLT, Nat.reduceEqDiff, Nat.reduceLeDiff, Nat.reduceAdd, Nat.reduceSub, Nat.reduceMul, Int.reduceLT, Int.reduceLE, Int.reduceEq, Int.reduceNeg]
  · cases hb : valid b
    · simp (maxSteps := 2000000) only [go_sem, ↓reduceIte, Nat.reduceLT, Nat.reduceEqDiff, Nat.reduceLeDiff, Nat.reduceAdd, Nat.reduceSub, Nat.reduceMul, Int.reduceLT, Int.reduceLE, Int.reduceEq, Int.reduceNeg]
    · simp (maxSteps := 2000000) only [go_sem, ↓reduceIte, Nat.reduceLT, Nat.reduceEqDiff, Nat.reduceLeDiff, Nat.reduceAdd, Nat.reduceSub, Nat.reduceMul, Int.reduceLT, Int.reduceLE, Int.reduceEq, Int.reduceNeg]
      exact r20_Leq_loop (valid_len ha) (valid_len hb) 0 (by omega)
@[go_sem] theorem r20_Leq_call {f g : SlF} {a b : List Int} {Q : Post3} {k : List Item} {os : List AOper} {d : Option Nat} {e : Env} {σ : Sto} : CallK T Q k os d e σ true i_r20_Leq [ints f a, ints g b] ↔ Run T Q (.ops os :: k) (put e d (.bool (leq a b))) σ := r20_Leq_spec


end Go.Abs
/- Walks of chapter 20: commits. -/
set_option linter.unusedSimpArgs false
set_option linter.unusedVariables false
namespace Go.Abs
open Go

structure Nam where
  st : Int
  seq : Int
  deriving DecidableEq
abbrev encN (n : Nam) : AVal := .agg [.int .i64 n.st, .int .i64 n.seq]

/-- a commit; what is in its operations is left open -/
structure Com where
  st : Int
  seq : Int
  pf : SlF
  past : List Int
  ver : Int
  ops : AVal
  h1 : ops.one = true
  h2 : ops.pure = true
def Com.nam (c : Com) : Nam := ⟨c.st, c.seq⟩
abbrev encC (c : Com) : AVal := .agg [.int .i64 c.st, .int .i64 c.seq, ints c.pf c.past, .int .i64 c.ver, c.ops]

@[go_sem] theorem Com.one (c : Com) : c.ops.one = true := c.h1
theorem names_pure {p : Nat → Bool} : ∀ (v : AVal), v.pure = true → v.names p = true := by
  intro v
  refine AVal.rec (motive_1 := fun v => v.names (fun _ => false) = true → v.names p = true) (motive_2 := fun vs => AVal.namesL (fun _ => false) vs = true → AVal.namesL p vs = true)
    ?_ ?_ ?_ ?_ ?_ ?_ ?_ ?_ ?_ ?_ ?_ ?_ ?_ ?_ ?_ ?_ ?_ ?_ ?_ ?_ ?_ ?_ v <;> intros <;> simp_all [AVal.names, AVal.namesL]
@[go_sem] theorem Com.names (c : Com) (p : Nat → Bool) : c.ops.names p = true := names_pure _ c.h2
@[go_sem] theorem Com.cells (c : Com) : c.ops.cells = [c.ops] := by
  have := c.h1
  cases h : c.ops <;> simp [h, AVal.one] at this <;> rfl

def has (c : List Int) (n : Nam) : Bool := valid c && decide (0 ≤ n.st) && decide (n.st < 6) && decide (1 ≤ n.seq) && decide (n.seq ≤ c.getD n.st.toNat 0)

theorem getD_of {c : List Int} {i : Int} (hl : c.length = 6) (h0 : 0 ≤ i) (h1 : i < 6) : ∃ h : i.toNat < c.length, c.getD i.toNat 0 = c[i.toNat] := by
  have h : i.toNat < c.length := by omega
  exact ⟨h, by rw [List.getD_eq_getElem?_getD, List.getElem?_eq_getElem h]; rfl⟩

theorem cut_Has_spec {f : SlF} {c : List Int} {st seq : Int} {lv : List Nat} {σ : Sto} {R : Post} : Cw T true i_cut_Has [ints f c, .agg [.int .i64 st, .int .i64 seq]] lv σ R ↔ R (.bool (has c ⟨st, seq⟩)) σ := by
  refine cw_intro T_cut_Has (by simp only [go_sem]) (by simp) ?_; rw [run_unfold cut_Has.main.eq_1]
  unfold has
  cases hv : valid c
  case false => simp (maxSteps := 2000000) only [go_sem, ↓reduceIte, Nat.reduceLT, Nat.reduceEqDiff, Nat.reduceLeDiff, Nat.reduceAdd, Nat.reduceSub, Nat.reduceMul, Int.reduceLT, Int.reduceLE, Int.reduceEq, Int.reduceNeg, hv]
  by_cases h1 : 0 ≤ st
  case neg => simp (maxSteps := 2000000) only [go_sem, ↓reduceIte, Nat.reduceLT, Nat.reduceEqDiff, Nat.reduceLeDiff, Nat.reduceAdd, Nat.reduceSub, Nat.reduceMul, Int.reduceLT, Int.reduceLE, Int.reduceEq, Int.reduceNeg, h1, hv]
  by_cases h2 : st < 6
  case neg => simp (maxSteps := 2000000) only [go_sem, ↓reduceIte, Nat.reduceLT, Nat.reduceEqDiff, Nat.reduceLeDiff, Nat.reduceAdd, Nat.reduceSub, Nat.reduceMul, Int.reduceLT, Int.reduceLE, Int.reduceEq, Int.reduceNeg, h2, hv, h1]
  by_cases h3 : 1 ≤ seq
  case neg => simp (maxSteps := 2000000) only [go_sem, ↓reduceIte, Nat.reduceLT, Nat.reduceEqDiff, Nat.reduceLeDiff, Nat.reduceAdd, Nat.reduceSub, Nat.reduceMul, Int.reduceLT, Int.reduceLE, Int.reduceEq, Int.reduceNeg, h3, hv, h1, h2]
  obtain ⟨hi, hg⟩ := getD_of (valid_len hv) h1 h2
  simp (maxSteps := 2000000) only [go_sem, ↓reduceIte, Nat.reduceLT, Nat.reduceEqDiff, Nat.reduceLeDiff, Nat.reduceAdd, Nat.reduceSub, Nat.reduceMul, Int.reduceLT, Int.reduceLE, Int.reduceEq, Int.reduceNeg, hv, h1, h2, h3, iaddrV_int h1 hi, hg]
@[go_sem] theorem cut_Has_call {f : SlF} {c : List Int} {st seq : Int} {Q : Post3} {k : List Item} {os : List AOper} {d : Option Nat} {e : Env} {σ : Sto} : CallK T Q k os d e σ true i_cut_Has [ints f c, .agg [.int .i64 st, .int .i64 seq]] ↔ Run T Q (.ops os :: k) (put e d (.bool (has c ⟨st, seq⟩))) σ := cut_Has_spec


theorem r20_Has_spec {f : SlF} {c : List Int} {st seq : Int} {lv : List Nat} {σ : Sto} {R : Post} : Cw T true i_r20_Has [ints f c, .agg [.int .i64 st, .int .i64 seq]] lv σ R ↔ R (.bool (has c ⟨st, seq⟩)) σ := by
  refine cw_intro T_r20_Has (by simp only [go_sem]) (by simp) ?_; rw [run_unfold r20_Has.main.eq_1]
  unfold has
  cases hv : valid c
  case false => simp (maxSteps := 2000000) only [go_sem, ↓reduceIte, Nat.reduceLT, Nat.reduceEqDiff, Nat.reduceLeDiff, Nat.reduceAdd, Nat.reduceSub, Nat.reduceMul, Int.reduceLT, Int.reduceLE, Int.reduceEq, Int.reduceNeg, hv]
  by_cases h1 : 0 ≤ st
  case neg => simp (maxSteps := 2000000) only [go_sem, ↓reduceIte, Nat.reduceLT, Nat.reduceEqDiff, Nat.reduceLeDiff, Nat.reduceAdd, Nat.reduceSub, Nat.reduceMul, Int.reduceLT, Int.reduceLE, Int.reduceEq, Int.reduceNeg, h1, hv]
  by_cases h2 : st < 6
  case neg => simp (maxSteps := 2000000) only [go_sem, ↓reduceIte, Nat.reduceLT, Nat.reduceEqDiff, Nat.reduceLeDiff, Nat.reduceAdd, Nat.reduceSub, Nat.reduceMul, Int.reduceLT, Int.reduceLE, Int.reduceEq, Int.reduceNeg, h2, hv, h1]
  by_cases h3 : 1 ≤ seq
  case neg => simp (maxSteps := 2000000) only [go_sem, ↓reduceIte, Nat.reduceLT, Nat.reduceEqDiff, Nat.reduceLeDiff, Nat.reduceAdd, Nat.reduceSub, Nat.reduceMul, Int.reduceLT, Int.reduceLE, Int.reduceEq, Int.reduceNeg, h3, hv, h1, h2]
  obtain ⟨hi, hg⟩ := getD_of (valid_len hv) h1 h2
  simp (maxSteps := 2000000) only [go_sem, ↓reduceIte, Nat.reduceLT, Nat.reduceEqDiff, Nat.reduceLeDiff, Nat.reduceAdd, Nat.reduceSub, Nat.reduceMul, Int.reduceLT, Int.reduceLE, Int.reduceEq, Int.reduceNeg, hv, h1, h2, h3, iaddrV_int h1 hi, hg]
@[go_sem] theorem r20_Has_call {f : SlF} {c : List Int} {st seq : Int} {Q : Post3} {k : List Item} {os : List AOper} {d : Option Nat} {e : Env} {σ : Sto} : CallK T Q k os d e σ true i_r20_Has [ints f c, .agg [.int .i64 st, .int .i64 seq]] ↔ Run T Q (.ops os :: k) (put e d (.bool (has c ⟨st, seq⟩))) σ := r20_Has_spec


def wf (c : Com) : Bool := decide (0 ≤ c.st) && decide (c.st < 6) && decide (1 ≤ c.seq) && decide (c.seq ≤ 999) && valid c.past && decide (c.past.getD c.st.toNat 0 = c.seq - 1)

theorem cut_WellFormed_spec {c : Com} {lv : List Nat} {σ : Sto} {R : Post} : Cw T true i_cut_WellFormed [encC c] lv σ R ↔ R (.bool (wf c)) σ := by
  refine cw_intro T_cut_WellFormed (by simp only [go_sem]) (by simp) ?_; rw [run_unfold cut_WellFormed.main.eq_1]
  unfold wf
  by_cases h1 : 0 ≤ c.st
  case neg => simp (maxSteps := 2000000) only [go_sem, ↓reduceIte, Nat.reduceLT, Nat.reduceEqDiff, Nat.reduceLeDiff, Nat.reduceAdd, Nat.reduceSub, Nat.reduceMul, Int.reduceLT, Int.reduceLE, Int.reduceEq, Int.reduceNeg, h1]
  by_cases h2 : c.st < 6
  case neg => simp (maxSteps := 2000000) only [go_sem, ↓reduceIte, Nat.reduceLT, Nat.reduceEqDiff, Nat.reduceLeDiff, Nat.reduceAdd, Nat.reduceSub, Nat.reduceMul, Int.reduceLT, Int.reduceLE, Int.reduceEq, Int.reduceNeg, h2, h1]
  by_cases h3 : 1 ≤ c.seq
  case neg => simp (maxSteps := 2000000) only [go_sem, ↓reduceIte, Nat.reduceLT, Nat.reduceEqDiff, Nat.reduceLeDiff, Nat.reduceAdd, Nat.reduceSub, Nat.reduceMul, Int.reduceLT, Int.reduceLE, Int.reduceEq, Int.reduceNeg, h3, h1, h2]
  by_cases h4 : c.seq ≤ 999
  case neg => simp (maxSteps := 2000000) only [go_sem, ↓reduceIte, Nat.reduceLT, Nat.reduceEqDiff, Nat.reduceLeDiff, Nat.reduceAdd, Nat.reduceSub, Nat.reduceMul, Int.reduceLT, Int.reduceLE, Int.reduceEq, Int.reduceNeg, h4, h1, h2, h3]
  cases hv : valid c.past
  case false => simp (maxSteps := 2000000) only [go_sem, ↓reduceIte, Nat.reduceLT, Nat.reduceEqDiff, Nat.reduceLeDiff, Nat.reduceAdd, Nat.reduceSub, Nat.reduceMul, Int.reduceLT, Int.reduceLE, Int.reduceEq, Int.reduceNeg, hv, h1, h2, h3, h4]
  obtain ⟨hi, hg⟩ := getD_of (valid_len hv) h1 h2
  simp (maxSteps := 2000000) only [go_sem, ↓reduceIte, Nat.reduceLT, Nat.reduceEqDiff, Nat.reduceLeDiff, Nat.reduceAdd, Nat.reduceSub, Nat.reduceMul, Int.reduceLT, Int.reduceLE, Int.reduceEq, Int.reduceNeg, hv, h1, h2, h3, h4, iaddrV_int h1 hi, hg, wrap_i64 (show -9223372036854775808 ≤ c.seq - 1 by omega) (show c.seq - 1 < 9223372036854775808 by omega)]
@[go_sem] theorem cut_WellFormed_call {c : Com} {Q : Post3} {k : List Item} {os : List AOper} {d : Option Nat} {e : Env} {σ : Sto} : CallK T Q k os d e σ true i_cut_WellFormed [encC c] ↔ Run T Q (.ops os :: k) (put e d (.bool (wf c))) σ := cut_WellFormed_spec


theorem r20_WellFormed_spec {c : Com} {lv : List Nat} {σ : Sto} {R : Post} : Cw T true i_r20_WellFormed [encC c] lv σ R ↔ R (.bool (wf c)) σ := by
  refine cw_intro T_r20_WellFormed (by simp only [go_sem]) (by simp) ?_; rw [run_unfold r20_WellFormed.main.eq_1]
  unfold wf
  by_cases h1 : 0 ≤ c.st
  case neg => simp (maxSteps := 2000000) only [go_sem, ↓reduceIte, Nat.reduceLT, Nat.reduceEqDiff, Nat.reduceLeDiff, Nat.reduceAdd, Nat.reduceSub, Nat.reduceMul, Int.reduceLT, Int.reduceLE, Int.reduceEq, Int.reduceNeg, h1]
  by_cases h2 : c.st < 6
  case neg => simp (maxSteps := 2000000) only [go_sem, ↓reduceIte, Nat.reduceLT, Nat.reduceEqDiff, Nat.reduceLeDiff, Nat.reduceAdd, Nat.reduceSub, Nat.reduceMul, Int.reduceLT, Int.reduceLE, Int.reduceEq, Int.reduceNeg, h2, h1]
  by_cases h3 : 1 ≤ c.seq
  case neg => simp (maxSteps := 2000000) only [go_sem, ↓reduceIte, Nat.reduceLT, Nat.reduceEqDiff, Nat.reduceLeDiff, Nat.reduceAdd, Nat.reduceSub, Nat.reduceMul, Int.reduceLT, Int.reduceLE, Int.reduceEq, Int.reduceNeg, h3, h1, h2]
  by_cases h4 : c.seq ≤ 999
  case neg => simp (maxSteps := 2000000) only [go_sem, ↓reduceIte, Nat.reduceLT, Nat.reduceEqDiff, Nat.reduceLeDiff, Nat.reduceAdd, Nat.reduceSub, Nat.reduceMul, Int.reduceLT, Int.reduceLE, Int.reduceEq, Int.reduceNeg, h4, h1, h2, h3]
  cases hv : valid c.past
  case false => simp (maxSteps := 2000000) only [go_sem, ↓reduceIte, Nat.reduceLT, Nat.reduceEqDiff, Nat.reduceLeDiff, Nat.reduceAdd, Nat.reduceSub, Nat.reduceMul, Int.reduceLT, Int.reduceLE, Int.reduceEq, Int.reduceNeg, hv, h1, h2, h3, h4]
  obtain ⟨hi, hg⟩ := getD_of (valid_len hv) h1 h2
  simp (maxSteps := 2000000) only [go_sem, ↓reduceIte, Nat.reduceLT, Nat.reduceEqDiff, Nat.reduceLeDiff, Nat.reduceAdd, Nat.reduceSub, Nat.reduceMul, Int.reduceLT, Int.reduceLE, Int.reduceEq, Int.reduceNeg, hv, h1, h2, h3, h4, iaddrV_int h1 hi, hg, wrap_i64 (show -9223372036854775808 ≤ c.seq - 1 by omega) (show c.seq - 1 < 9223372036854775808 by omega)]
@[go_sem] theorem r20_WellFormed_call {c : Com} {Q : Post3} {k : List Item} {os : List AOper} {d : Option Nat} {e : Env} {σ : Sto} : CallK T Q k os d e σ true i_r20_WellFormed [encC c] ↔ Run T Q (.ops os :: k) (put e d (.bool (wf c))) σ := r20_WellFormed_spec


theorem wf_parts {c : Com} (h : wf c = true) : 0 ≤ c.st ∧ c.st < 6 ∧ 1 ≤ c.seq ∧ c.seq ≤ 999 ∧ valid c.past = true ∧ c.past.getD c.st.toNat 0 = c.seq - 1 := by
  simp only [wf, Bool.and_eq_true, decide_eq_true_eq] at h
  obtain ⟨⟨⟨⟨⟨a, b⟩, c⟩, d⟩, e⟩, f⟩ := h
  exact ⟨a, b, c, d, e, f⟩

def sees (c a : Com) : Bool := wf c && wf a && decide (a.seq ≤ c.past.getD a.st.toNat 0)

theorem cut_Sees_spec {c a : Com} {lv : List Nat} {σ : Sto} {R : Post} : Cw T true i_cut_Sees [encC c, encC a] lv σ R ↔ R (.bool (sees c a)) σ := by
  refine cw_intro T_cut_Sees (by simp only [go_sem]) (by simp) ?_; rw [run_unfold cut_Sees.main.eq_1]
  unfold sees
  cases h1 : wf c
  case false => simp (maxSteps := 2000000) only [go_sem, ↓reduceIte, Nat.reduceLT, Nat.reduceEqDiff, Nat.reduceLeDiff, Nat.reduceAdd, Nat.reduceSub, Nat.reduceMul, Int.reduceLT, Int.reduceLE, Int.reduceEq, Int.reduceNeg, h1]
  cases h2 : wf a
  case false => simp (maxSteps := 2000000) only [go_sem, ↓reduceIte, Nat.reduceLT, Nat.reduceEqDiff, Nat.reduceLeDiff, Nat.reduceAdd, Nat.reduceSub, Nat.reduceMul, Int.reduceLT, Int.reduceLE, Int.reduceEq, Int.reduceNeg, h2, h1]
  obtain ⟨p1, p2, _⟩ := wf_parts h2
  obtain ⟨_, _, _, _, q, _⟩ := wf_parts h1
  obtain ⟨hi, hg⟩ := getD_of (valid_len q) p1 p2
  simp (maxSteps := 2000000) only [go_sem, ↓reduceIte, Nat.reduceLT, Nat.reduceEqDiff, Nat.reduceLeDiff, Nat.reduceAdd, Nat.reduceSub, Nat.reduceMul, Int.reduceLT, Int.reduceLE, Int.reduceEq, Int.reduceNeg, h1, h2, iaddrV_int p1 hi, hg]
@[go_sem] theorem cut_Sees_call {c a : Com} {Q : Post3} {k : List Item} {os : List AOper} {d : Option Nat} {e : Env} {σ : Sto} : CallK T Q k os d e σ true i_cut_Sees [encC c, encC a] ↔ Run T Q (.ops os :: k) (put e d (.bool (sees c a))) σ := cut_Sees_spec


theorem r20_Sees_spec {c a : Com} {lv : List Nat} {σ : Sto} {R : Post} : Cw T true i_r20_Sees [encC c, encC a] lv σ R ↔ R (.bool (sees c a)) σ := by
  refine cw_intro T_r20_Sees (by simp only [go_sem]) (by simp) ?_; rw [run_unfold r20_Sees.main.eq_1]
  unfold sees
  cases h1 : wf c
  case false => simp (maxSteps := 2000000) only [go_sem, ↓reduceIte, Nat.reduceLT, Nat.reduceEqDiff, Nat.reduceLeDiff, Nat.reduceAdd, Nat.reduceSub, Nat.reduceMul, Int.reduceLT, Int.reduceLE, Int.reduceEq, Int.reduceNeg, h1]
  cases h2 : wf a
  case false => simp (maxSteps := 2000000) only [go_sem, ↓reduceIte, Nat.reduceLT, Nat.reduceEqDiff, Nat.reduceLeDiff, Nat.reduceAdd, Nat.reduceSub, Nat.reduceMul, Int.reduceLT, Int.reduceLE, Int.reduceEq, Int.reduceNeg, h2, h1]
  obtain ⟨p1, p2, _⟩ := wf_parts h2
  obtain ⟨_, _, _, _, q, _⟩ := wf_parts h1
  obtain ⟨hi, hg⟩ := getD_of (valid_len q) p1 p2
  simp (maxSteps := 2000000) only [go_sem, ↓reduceIte, Nat.reduceLT, Nat.reduceEqDiff, Nat.reduceLeDiff, Nat.reduceAdd, Nat.reduceSub, Nat.reduceMul, Int.reduceLT, Int.reduceLE, Int.reduceEq, Int.reduceNeg, h1, h2, iaddrV_int p1 hi, hg]
@[go_sem] theorem r20_Sees_call {c a : Com} {Q : Post3} {k : List Item} {os : List AOper} {d : Option Nat} {e : Env} {σ : Sto} : CallK T Q k os d e σ true i_r20_Sees [encC c, encC a] ↔ Run T Q (.ops os :: k) (put e d (.bool (sees c a))) σ := r20_Sees_spec


/-- sums that wrap, as Go's do -/
def addW (a b : Int) : Int := IntKind.i64.wrap (a + b)
def sumW (l : List Int) : Int := l.foldl addW 0

theorem r20_Weight_loop {c : Com} (hc : Fits c.past) : ∀ i, i ≤ c.past.length → ∀ n : Int,
    Run T (Res [.tmp 2] (.int .i64 ((c.past.drop i).foldl addW n))) (.inLoop r20_Weight.b0 :: r20_Weight.k0) (mkE 20 [(1, .ptr 0 5 0), (3, .int .i64 n), (4, .int .i64 i)]) [.cells false (encC c).cells] := by
  refine up_ind ?_ fun i hi ih n => ?_
  · intro n
    rw [run_round, run_unfold r20_Weight.b0.eq_1]
    simp (maxSteps := 2000000) only [go_sem, ↓reduceIte, Nat.reduceLT, Nat.reduceEqDiff, Nat.reduceLeDiff, Nat.reduceAdd, Nat.reduceSub, Nat.reduceMul, Int.reduceLT, Int.reduceLE, Int.reduceEq, Int.reduceNeg, run_unfold r20_Weight.c0.eq_1, r20_Weight.k0, List.drop_length, List.foldl_nil]
  · rw [run_round, run_unfold r20_Weight.b0.eq_1]
    rw [List.drop_eq_getElem_cons hi]
    simp (maxSteps := 2000000) only [go_sem, ↓reduceIte, Nat.reduceLT, Nat.reduceEqDiff, Nat.reduceLeDiff, Nat.reduceAdd, Nat.reduceSub, Nat.reduceMul, Int.reduceLT, Int.reduceLE, Int.reduceEq, Int.reduceNeg, hi, List.foldl_cons, wrap_succ (show i < 9223372036854775807 by omega)]
    exact ih _

theorem r20_Weight_spec {c : Com} (hc : Fits c.past) {lv : List Nat} {σ : Sto} {R : Post} : Cw T true i_r20_Weight [encC c] lv σ R ↔ R (.int .i64 (sumW c.past)) σ := by
  refine cw_intro T_r20_Weight (by simp only [go_sem]) (by simp) ?_; rw [run_unfold r20_Weight.main.eq_1]
  simp (maxSteps := 2000000) only [go_sem, ↓reduceIte, Nat.reduceLT, Nat.reduceEqDiff, Nat.reduceLeDiff, Nat.reduceAdd, Nat.reduceSub, Nat.reduceMul, Int.reduceLT, Int.reduceLE, Int.reduceEq, Int.reduceNeg]
  exact r20_Weight_loop hc 0 (by omega) 0
@[go_sem] theorem r20_Weight_call {c : Com} (hc : Fits c.past) {Q : Post3} {k : List Item} {os : List AOper} {d : Option Nat} {e : Env} {σ : Sto} : CallK T Q k os d e σ true i_r20_Weight [encC c] ↔ Run T Q (.ops os :: k) (put e d (.int .i64 (sumW c.past))) σ := r20_Weight_spec hc


theorem cut_weight_loop {f : SlF} {l : List Int} {σ : Sto} (hc : Fits l) : ∀ i, i ≤ l.length → ∀ n : Int,
    Run T (Res [.tmp 2] (.int .i64 ((l.drop i).foldl addW n))) (.inLoop cut_weight.b0 :: cut_weight.k0) (mkE 18 [(3, .int .i64 n), (7, ints f l), (8, .int .i64 l.length), (9, .int .i64 i)]) σ := by
  refine up_ind ?_ fun i hi ih n => ?_
  · intro n
    rw [run_round, run_unfold cut_weight.b0.eq_1]
    simp (maxSteps := 2000000) only [go_sem, ↓reduceIte, Nat.reduceLT, Nat.reduceEqDiff, Nat.reduceLeDiff, Nat.reduceAdd, Nat.reduceSub, Nat.reduceMul, Int.reduceLT, Int.reduceLE, Int.reduceEq, Int.reduceNeg, run_unfold cut_weight.c0.eq_1, run_unfold cut_weight.c1.eq_1, cut_weight.k0, List.drop_length, List.foldl_nil]
  · rw [run_round, run_unfold cut_weight.b0.eq_1]
    rw [List.drop_eq_getElem_cons hi]
    simp (maxSteps := 2000000) only [go_sem, ↓reduceIte, Nat.reduceLT, Nat.reduceEqDiff, Nat.reduceLeDiff, Nat.reduceAdd, Nat.reduceSub, Nat.reduceMul, Int.reduceLT, Int.reduceLE, Int.reduceEq, Int.reduceNeg, hi, List.foldl_cons, wrap_succ (show i < 9223372036854775807 by omega)]
    exact ih _

theorem cut_weight_spec {c : Com} (hc : Fits c.past) {lv : List Nat} {σ : Sto} {R : Post} : Cw T true i_cut_weight [encC c] lv σ R ↔ R (.int .i64 (sumW c.past)) σ := by
  refine cw_intro T_cut_weight (by simp only [go_sem]) (by simp) ?_; rw [run_unfold cut_weight.main.eq_1]
  simp (maxSteps := 2000000) only [go_sem, ↓reduceIte, Nat.reduceLT, Nat.reduceEqDiff, Nat.reduceLeDiff, Nat.reduceAdd, Nat.reduceSub, Nat.reduceMul, Int.reduceLT, Int.reduceLE, Int.reduceEq, Int.reduceNeg]
  exact cut_weight_loop hc 0 (by omega) 0
@[go_sem] theorem cut_weight_call {c : Com} (hc : Fits c.past) {Q : Post3} {k : List Item} {os : List AOper} {d : Option Nat} {e : Env} {σ : Sto} : CallK T Q k os d e σ true i_cut_weight [encC c] ↔ Run T Q (.ops os :: k) (put e d (.int .i64 (sumW c.past))) σ := cut_weight_spec hc


theorem cmp_isNaN_int_spec {n : Int} {lv : List Nat} {σ : Sto} {R : Post} : Cw T true i_cmp_isNaN_int [.int .i64 n] lv σ R ↔ R (.bool false) σ := by
  refine cw_intro T_cmp_isNaN_int (by simp only [go_sem]) (by simp) ?_; rw [run_unfold cmp_isNaN_int.main.eq_1]
  simp (maxSteps := 2000000) only [go_sem, ↓reduceIte, Nat.reduceLT, Nat.reduceEqDiff, Nat.reduceLeDiff, Nat.reduceAdd, Nat.reduceSub, Nat.reduceMul, Int.reduceLT, Int.reduceLE, Int.reduceEq, Int.reduceNeg]
@[go_sem] theorem cmp_isNaN_int_call {n : Int} {Q : Post3} {k : List Item} {os : List AOper} {d : Option Nat} {e : Env} {σ : Sto} : CallK T Q k os d e σ true i_cmp_isNaN_int [.int .i64 n] ↔ Run T Q (.ops os :: k) (put e d (.bool false)) σ := cmp_isNaN_int_spec


def cmpI (a b : Int) : Int := if a < b then -1 else if b < a then 1 else 0

theorem cmp_Compare_int_spec {a b : Int} {lv : List Nat} {σ : Sto} {R : Post} : Cw T true i_cmp_Compare_int [.int .i64 a, .int .i64 b] lv σ R ↔ R (.int .i64 (cmpI a b)) σ := by
  refine cw_intro T_cmp_Compare_int (by simp only [go_sem]) (by simp) ?_; rw [run_unfold cmp_Compare_int.main.eq_1]
  simp (maxSteps := 2000000) only [go_sem, ↓reduceIte, Nat.reduceLT, Nat.reduceEqDiff, Nat.reduceLeDiff, Nat.reduceAdd, Nat.reduceSub, Nat.reduceMul, Int.reduceLT, Int.reduceLE, Int.reduceEq, Int.reduceNeg, cmpI]
  by_cases h : a < b
  · simp (maxSteps := 2000000) only [go_sem, ↓reduceIte, Nat.reduceLT, Nat.reduceEqDiff, Nat.reduceLeDiff, Nat.reduceAdd, Nat.reduceSub, Nat.reduceMul, Int.reduceLT, Int.reduceLE, Int.reduceEq, Int.reduceNeg, h]
  · simp (maxSteps := 2000000) only [go_sem, ↓reduceIte, Nat.reduceLT, Nat.reduceEqDiff, Nat.reduceLeDiff, Nat.reduceAdd, Nat.reduceSub, Nat.reduceMul, Int.reduceLT, Int.reduceLE, Int.reduceEq, Int.reduceNeg, h]
    by_cases h2 : b < a
    · simp (maxSteps := 2000000) only [go_sem, ↓reduceIte, Nat.reduceLT, Nat.reduceEqDiff, Nat.reduceLeDiff, Nat.reduceAdd, Nat.reduceSub, Nat.reduceMul, Int.reduceLT, Int.reduceLE, Int.reduceEq, Int.reduceNeg, h2]
    · simp (maxSteps := 2000000) only [go_sem, ↓reduceIte, Nat.reduceLT, Nat.reduceEqDiff, Nat.reduceLeDiff, Nat.reduceAdd, Nat.reduceSub, Nat.reduceMul, Int.reduceLT, Int.reduceLE, Int.reduceEq, Int.reduceNeg, h2]
@[go_sem] theorem cmp_Compare_int_call {a b : Int} {Q : Post3} {k : List Item} {os : List AOper} {d : Option Nat} {e : Env} {σ : Sto} : CallK T Q k os d e σ true i_cmp_Compare_int [.int .i64 a, .int .i64 b] ↔ Run T Q (.ops os :: k) (put e d (.int .i64 (cmpI a b))) σ := cmp_Compare_int_spec

end Go.Abs
/- Walks of chapter 20: cuts and lists. -/
set_option linter.unusedSimpArgs false
set_option linter.unusedVariables false
namespace Go.Abs
open Go

theorem r20_Zero_spec  {lv : List Nat} {σ : Sto} {R : Post} : Cw T true i_r20_Zero [] lv σ R ↔ R (ints .lst [0, 0, 0, 0, 0, 0]) σ := by
  refine cw_intro T_r20_Zero (by simp only [go_sem]) (by simp) ?_; rw [run_unfold r20_Zero.main.eq_1]
  simp (maxSteps := 2000000) only [go_sem, ↓reduceIte, Nat.reduceLT, Nat.reduceEqDiff, Nat.reduceLeDiff, Nat.reduceAdd, Nat.reduceSub, Nat.reduceMul, Int.reduceLT, Int.reduceLE, Int.reduceEq, Int.reduceNeg]
  rw [show mksliceV 1 8 [AVal.int IntKind.i64 0] (AVal.int IntKind.i64 6) (AVal.int IntKind.i64 6) [] = some (.ref 0 6 0 6 1, [.cells false [int 0, int 0, int 0, int 0, int 0, int 0]]) from rfl]
  simp (maxSteps := 2000000) only [go_sem, ↓reduceIte, Nat.reduceLT, Nat.reduceEqDiff, Nat.reduceLeDiff, Nat.reduceAdd, Nat.reduceSub, Nat.reduceMul, Int.reduceLT, Int.reduceLE, Int.reduceEq, Int.reduceNeg]
  exact snap_ints (c := [0, 0, 0, 0, 0, 0]) rfl
@[go_sem] theorem r20_Zero_call  {Q : Post3} {k : List Item} {os : List AOper} {d : Option Nat} {e : Env} {σ : Sto} : CallK T Q k os d e σ true i_r20_Zero [] ↔ Run T Q (.ops os :: k) (put e d (ints .lst [0, 0, 0, 0, 0, 0])) σ := r20_Zero_spec


theorem r20_Same_loop {f g : SlF} {a b : List Int} (ha : Fits a) (hb : b.length = a.length) : ∀ i, i ≤ a.length →
    Run T (Res [.tmp 4] (.bool (decide (a.drop i = b.drop i)))) (.inLoop r20_Same.b0 :: r20_Same.k0) (mkE 26 [(0, ints f a), (1, ints g b), (5, .int .i64 i)]) [] := by
  refine up_ind ?_ fun i hi ih => ?_
  · rw [run_round, run_unfold r20_Same.b0.eq_1]
    simp (maxSteps := 2000000) only [go_sem, ↓reduceIte, Nat.reduceLT, Nat.reduceEqDiff, Nat.reduceLeDiff, Nat.reduceAdd, Nat.reduceSub, Nat.reduceMul, Int.reduceLT, Int.reduceLE, Int.reduceEq, Int.reduceNeg, run_unfold r20_Same.c0.eq_1, run_unfold r20_Same.c1.eq_1, r20_Same.k0, List.drop_length, show b.drop a.length = [] by rw [← hb]; exact List.drop_length]
  · rw [run_round, run_unfold r20_Same.b0.eq_1]
    have h2 : i < b.length := by omega
    rw [List.drop_eq_getElem_cons hi, List.drop_eq_getElem_cons h2]
    simp (maxSteps := 2000000) only [go_sem, ↓reduceIte, Nat.reduceLT, Nat.reduceEqDiff, Nat.reduceLeDiff, Nat.reduceAdd, Nat.reduceSub, Nat.reduceMul, Int.reduceLT, Int.reduceLE, Int.reduceEq, Int.reduceNeg, hi, h2, List.cons.injEq]
    by_cases h : a[i] = b[i]
    · simp (maxSteps := 2000000) only [go_sem, ↓reduceIte, Nat.reduceLT, Nat.reduceEqDiff, Nat.reduceLeDiff, Nat.reduceAdd, Nat.reduceSub, Nat.reduceMul, Int.reduceLT, Int.reduceLE, Int.reduceEq, Int.reduceNeg, h, wrap_succ (show i < 9223372036854775807 by omega)]
      exact ih
    · simp (maxSteps := 2000000) only [go_sem, ↓reduceIte, Nat.reduceLT, Nat.reduceEqDiff, Nat.reduceLeDiff, Nat.reduceAdd, Nat.reduceSub, Nat.reduceMul, Int.reduceLT, Int.reduceLE, Int.reduceEq, Int.reduceNeg, h]

theorem r20_Same_spec {f g : SlF} {a b : List Int} (ha : Fits a) {lv : List Nat} {σ : Sto} {R : Post} : Cw T true i_r20_Same [ints f a, ints g b] lv σ R ↔ R (.bool (decide (a = b))) σ := by
  refine cw_intro T_r20_Same (by simp only [go_sem]) (by simp) ?_; rw [run_unfold r20_Same.main.eq_1]
  simp (maxSteps := 2000000) only [go_sem, ↓reduceIte, Nat.reduceLT, Nat.reduceEqDiff, Nat.reduceLeDiff, Nat.reduceAdd, Nat.reduceSub, Nat.reduceMul, Int.reduceLT, Int.reduceLE, Int.reduceEq, Int.reduceNeg]
  by_cases h : a.length = b.length
  · simp (maxSteps := 2000000) only [go_sem, ↓reduceIte, Nat.reduceLT, Nat.reduceEqDiff, Nat.reduceLeDiff, Nat.reduceAdd, Nat.reduceSub, Nat.reduceMul, Int.reduceLT, Int.reduceLE, Int.reduceEq, Int.reduceNeg, h]
    exact r20_Same_loop ha h.symm 0 (by omega)
  · have h' : ¬ a = b := fun e => h (by rw [e])
    have h2 : ¬ ((a.length : Int) = (b.length : Int)) := by omega
    simp (maxSteps := 2000000) only [go_sem, ↓reduceIte, Nat.reduceLT, Nat.reduceEqDiff, Nat.reduceLeDiff, Nat.reduceAdd, Nat.reduceSub, Nat.reduceMul, Int.reduceLT, Int.reduceLE, Int.reduceEq, Int.reduceNeg, h2, h']
@[go_sem] theorem r20_Same_call {f g : SlF} {a b : List Int} (ha : Fits a) {Q : Post3} {k : List Item} {os : List AOper} {d : Option Nat} {e : Env} {σ : Sto} : CallK T Q k os d e σ true i_r20_Same [ints f a, ints g b] ↔ Run T Q (.ops os :: k) (put e d (.bool (decide (a = b)))) σ := r20_Same_spec ha


/-- a cut with an error -/
structure Cut where
  f : SlF
  c : List Int
  e : Int
abbrev encU (u : Cut) : AVal := .agg [ints u.f u.c, .int .i64 u.e]

theorem r20_Alike_spec {f g : SlF} {a b : List Int} {x y : Int} (ha : Fits a) {lv : List Nat} {σ : Sto} {R : Post} : Cw T true i_r20_Alike [.agg [ints f a, .int .i64 x], .agg [ints g b, .int .i64 y]] lv σ R ↔ R (.bool (decide (x = y) && decide (a = b))) σ := by
  refine cw_intro T_r20_Alike (by simp only [go_sem]) (by simp) ?_; rw [run_unfold r20_Alike.main.eq_1]
  cases h : decide (x = y)
  · simp (maxSteps := 2000000) only [go_sem, ↓reduceIte, Nat.reduceLT, Nat.reduceEqDiff, Nat.reduceLeDiff, Nat.reduceAdd, Nat.reduceSub, Nat.reduceMul, Int.reduceLT, Int.reduceLE, Int.reduceEq, Int.reduceNeg, h]
  · simp (maxSteps := 2000000) only [go_sem, ↓reduceIte, Nat.reduceLT, Nat.reduceEqDiff, Nat.reduceLeDiff, Nat.reduceAdd, Nat.reduceSub, Nat.reduceMul, Int.reduceLT, Int.reduceLE, Int.reduceEq, Int.reduceNeg, h, ha]
@[go_sem] theorem r20_Alike_call {f g : SlF} {a b : List Int} {x y : Int} (ha : Fits a) {Q : Post3} {k : List Item} {os : List AOper} {d : Option Nat} {e : Env} {σ : Sto} : CallK T Q k os d e σ true i_r20_Alike [.agg [ints f a, .int .i64 x], .agg [ints g b, .int .i64 y]] ↔ Run T Q (.ops os :: k) (put e d (.bool (decide (x = y) && decide (a = b)))) σ := r20_Alike_spec ha


def cutOf (a b : List Int) (c : List Int) : Cut := if valid a && valid b then ⟨.lst, c, 0⟩ else ⟨.nil, [], 200⟩
def maxL (a b : List Int) : List Int := List.zipWith (fun x y => if x < y then y else x) a b
def minL (a b : List Int) : List Int := List.zipWith (fun x y => if y < x then y else x) a b

theorem drop_zipWith {α β γ : Type} {h : α → β → γ} {a : List α} {b : List β} {i : Nat} (h1 : i < a.length) (h2 : i < b.length) : (List.zipWith h a b).drop i = h a[i] b[i] :: (List.zipWith h a b).drop (i + 1) := by
  have : i < (List.zipWith h a b).length := by simp; omega
  rw [List.drop_eq_getElem_cons this]; simp

theorem r20_JoinIn_loop {f g : SlF} {a b : List Int} (ha : a.length = 6) (hb : b.length = 6) : ∀ i, i ≤ 6 → ∀ o : List Int, o.length = i →
    Run T (Res [.cell 4 true 2] (.agg [ints .lst (o ++ (maxL a b).drop i), .int .i64 0])) (.inLoop r20_JoinIn.b0 :: r20_JoinIn.k0) (mkE 37 [(0, ints f a), (1, ints g b), (4, .ptr 0 2 0), (5, .ref 1 o.length 0 o.length 1), (6, .int .i64 i)]) [.cells false [.nils, .int .i64 0], .cells false (o.map fun n => .int .i64 n)] := by
  refine up_ind ?_ fun i hi ih o ho => ?_
  · intro o ho
    rw [run_round, run_unfold r20_JoinIn.b0.eq_1]
    rw [List.drop_eq_nil_of_le (by simp [maxL]; omega)]
    simp (maxSteps := 2000000) only [go_sem, ↓reduceIte, Nat.reduceLT, Nat.reduceEqDiff, Nat.reduceLeDiff, Nat.reduceAdd, Nat.reduceSub, Nat.reduceMul, Int.reduceLT, Int.reduceLE, Int.reduceEq, Int.reduceNeg, run_unfold r20_JoinIn.c0.eq_1, run_unfold r20_JoinIn.c1.eq_1, r20_JoinIn.k0, ha]
    rw [snap_ints (by rfl)]
    simp (maxSteps := 2000000) only [go_sem, ↓reduceIte, Nat.reduceLT, Nat.reduceEqDiff, Nat.reduceLeDiff, Nat.reduceAdd, Nat.reduceSub, Nat.reduceMul, Int.reduceLT, Int.reduceLE, Int.reduceEq, Int.reduceNeg]
  · rw [run_round, run_unfold r20_JoinIn.b0.eq_1]
    have h1 : i < a.length := by omega
    have h2 : i < b.length := by omega
    simp (maxSteps := 2000000) only [go_sem, ↓reduceIte, Nat.reduceLT, Nat.reduceEqDiff, Nat.reduceLeDiff, Nat.reduceAdd, Nat.reduceSub, Nat.reduceMul, Int.reduceLT, Int.reduceLE, Int.reduceEq, Int.reduceNeg, h1, h2]
    rw [appendV_push (by rfl) (by rfl) (by simp) rfl (by unfold maxBytes; omega)]
    simp (maxSteps := 2000000) only [go_sem, ↓reduceIte, Nat.reduceLT, Nat.reduceEqDiff, Nat.reduceLeDiff, Nat.reduceAdd, Nat.reduceSub, Nat.reduceMul, Int.reduceLT, Int.reduceLE, Int.reduceEq, Int.reduceNeg, wrap_succ (show i < 9223372036854775807 by omega)]
    have := ih (o ++ [if a[i] < b[i] then b[i] else a[i]]) (by simp [ho])
    rw [maxL, drop_zipWith h1 h2, ← maxL]
    simpa using this

theorem r20_JoinIn_spec {f g : SlF} {a b : List Int} {lv : List Nat} {σ : Sto} {R : Post} : Cw T true i_r20_JoinIn [ints f a, ints g b] lv σ R ↔ R (encU (cutOf a b (maxL a b))) σ := by
  refine cw_intro T_r20_JoinIn (by simp only [go_sem]) (by simp) ?_; rw [run_unfold r20_JoinIn.main.eq_1]
  unfold cutOf
  cases ha : valid a
  case false => simp (maxSteps := 2000000) only [go_sem, ↓reduceIte, Nat.reduceLT, Nat.reduceEqDiff, Nat.reduceLeDiff, Nat.reduceAdd, Nat.reduceSub, Nat.reduceMul, Int.reduceLT, Int.reduceLE, Int.reduceEq, Int.reduceNeg, ha]
  cases hb : valid b
  case false => simp (maxSteps := 2000000) only [go_sem, ↓reduceIte, Nat.reduceLT, Nat.reduceEqDiff, Nat.reduceLeDiff, Nat.reduceAdd, Nat.reduceSub, Nat.reduceMul, Int.reduceLT, Int.reduceLE, Int.reduceEq, Int.reduceNeg, hb, ha]
  simp (maxSteps := 2000000) only [go_sem, ↓reduceIte, Nat.reduceLT, Nat.reduceEqDiff, Nat.reduceLeDiff, Nat.reduceAdd, Nat.reduceSub, Nat.reduceMul, Int.reduceLT, Int.reduceLE, Int.reduceEq, Int.reduceNeg, ha, hb]
  exact r20_JoinIn_loop (valid_len ha) (valid_len hb) 0 (by omega) [] rfl
@[go_sem] theorem r20_JoinIn_call {f g : SlF} {a b : List Int} {Q : Post3} {k : List Item} {os : List AOper} {d : Option Nat} {e : Env} {σ : Sto} : CallK T Q k os d e σ true i_r20_JoinIn [ints f a, ints g b] ↔ Run T Q (.ops os :: k) (put e d (encU (cutOf a b (maxL a b)))) σ := r20_JoinIn_spec


theorem r20_MeetIn_loop {f g : SlF} {a b : List Int} (ha : a.length = 6) (hb : b.length = 6) : ∀ i, i ≤ 6 → ∀ o : List Int, o.length = i →
    Run T (Res [.cell 4 true 2] (.agg [ints .lst (o ++ (minL a b).drop i), .int .i64 0])) (.inLoop r20_MeetIn.b0 :: r20_MeetIn.k0) (mkE 37 [(0, ints f a), (1, ints g b), (4, .ptr 0 2 0), (5, .ref 1 o.length 0 o.length 1), (6, .int .i64 i)]) [.cells false [.nils, .int .i64 0], .cells false (o.map fun n => .int .i64 n)] := by
  refine up_ind ?_ fun i hi ih o ho => ?_
  · intro o ho
    rw [run_round, run_unfold r20_MeetIn.b0.eq_1]
    rw [List.drop_eq_nil_of_le (by simp [minL]; omega)]
    simp (maxSteps := 2000000) only [go_sem, ↓reduceIte, Nat.reduceLT, Nat.reduceEqDiff, Nat.reduceLeDiff, Nat.reduceAdd, Nat.reduceSub, Nat.reduceMul, Int.reduceLT, Int.reduceLE, Int.reduceEq, Int.reduceNeg, run_unfold r20_MeetIn.c0.eq_1, run_unfold r20_MeetIn.c1.eq_1, r20_MeetIn.k0, ha]
    rw [snap_ints (by rfl)]
    simp (maxSteps := 2000000) only [go_sem, ↓reduceIte, Nat.reduceLT, Nat.reduceEqDiff, Nat.reduceLeDiff, Nat.reduceAdd, Nat.reduceSub, Nat.reduceMul, Int.reduceLT, Int.reduceLE, Int.reduceEq, Int.reduceNeg]
  · rw [run_round, run_unfold r20_MeetIn.b0.eq_1]
    have h1 : i < a.length := by omega
    have h2 : i < b.length := by omega
    simp (maxSteps := 2000000) only [go_sem, ↓reduceIte, Nat.reduceLT, Nat.reduceEqDiff, Nat.reduceLeDiff, Nat.reduceAdd, Nat.reduceSub, Nat.reduceMul, Int.reduceLT, Int.reduceLE, Int.reduceEq, Int.reduceNeg, h1, h2]
    rw [appendV_push (by rfl) (by rfl) (by simp) rfl (by unfold maxBytes; omega)]
    simp (maxSteps := 2000000) only [go_sem, ↓reduceIte, Nat.reduceLT, Nat.reduceEqDiff, Nat.reduceLeDiff, Nat.reduceAdd, Nat.reduceSub, Nat.reduceMul, Int.reduceLT, Int.reduceLE, Int.reduceEq, Int.reduceNeg, wrap_succ (show i < 9223372036854775807 by omega)]
    have := ih (o ++ [if b[i] < a[i] then b[i] else a[i]]) (by simp [ho])
    rw [minL, drop_zipWith h1 h2, ← minL]
    simpa using this

theorem r20_MeetIn_spec {f g : SlF} {a b : List Int} {lv : List Nat} {σ : Sto} {R : Post} : Cw T true i_r20_MeetIn [ints f a, ints g b] lv σ R ↔ R (encU (cutOf a b (minL a b))) σ := by
  refine cw_intro T_r20_MeetIn (by simp only [go_sem]) (by simp) ?_; rw [run_unfold r20_MeetIn.main.eq_1]
  unfold cutOf
  cases ha : valid a
  case false => simp (maxSteps := 2000000) only [go_sem, ↓reduceIte, Nat.reduceLT, Nat.reduceEqDiff, Nat.reduceLeDiff, Nat.reduceAdd, Nat.reduceSub, Nat.reduceMul, Int.reduceLT, Int.reduceLE, Int.reduceEq, Int.reduceNeg, ha]
  cases hb : valid b
  case false => simp (maxSteps := 2000000) only [go_sem, ↓reduceIte, Nat.reduceLT, Nat.reduceEqDiff, Nat.reduceLeDiff, Nat.reduceAdd, Nat.reduceSub, Nat.reduceMul, Int.reduceLT, Int.reduceLE, Int.reduceEq, Int.reduceNeg, hb, ha]
  simp (maxSteps := 2000000) only [go_sem, ↓reduceIte, Nat.reduceLT, Nat.reduceEqDiff, Nat.reduceLeDiff, Nat.reduceAdd, Nat.reduceSub, Nat.reduceMul, Int.reduceLT, Int.reduceLE, Int.reduceEq, Int.reduceNeg, ha, hb]
  exact r20_MeetIn_loop (valid_len ha) (valid_len hb) 0 (by omega) [] rfl

@[go_sem] theorem r20_MeetIn_call {f g : SlF} {a b : List Int} {Q : Post3} {k : List Item} {os : List AOper} {d : Option Nat} {e : Env} {σ : Sto} : CallK T Q k os d e σ true i_r20_MeetIn [ints f a, ints g b] ↔ Run T Q (.ops os :: k) (put e d (encU (cutOf a b (minL a b)))) σ := r20_MeetIn_spec


theorem slices_Clone_int_spec {f : SlF} {c : List Int} (hc : c ≠ []) (hb : c.length * 8 ≤ maxBytes) {σ : Sto} {R : Post} : Cw T false i_slices_Clone_int [ints f c] [] σ R ↔ R (.ref σ.length c.length 0 c.length 1) (σ ++ [.cells false (c.map fun n => .int .i64 n)]) := by
  rw [cw_enter T_slices_Clone_int (by simp), run_unfold slices_Clone_int.main.eq_1]
  simp (maxSteps := 2000000) only [go_sem, ↓reduceIte, Nat.reduceLT, Nat.reduceEqDiff, Nat.reduceLeDiff, Nat.reduceAdd, Nat.reduceSub, Nat.reduceMul, Int.reduceLT, Int.reduceLE, Int.reduceEq, Int.reduceNeg, eqnilV_sv (show (c.map fun n => AVal.int .i64 n) ≠ [] by simpa using hc)]
  rw [appendV_fresh get_last rowOf_ints (by simp) (by decide) (by simp [AVal.one]) hb]
  simp (maxSteps := 2000000) only [go_sem, ↓reduceIte, Nat.reduceLT, Nat.reduceEqDiff, Nat.reduceLeDiff, Nat.reduceAdd, Nat.reduceSub, Nat.reduceMul, Int.reduceLT, Int.reduceLE, Int.reduceEq, Int.reduceNeg, set_last]

@[go_sem] theorem slices_Clone_int_call {f : SlF} {c : List Int} (hc : c ≠ []) (hb : c.length * 8 ≤ maxBytes) {Q : Post3} {k : List Item} {os : List AOper} {d : Option Nat} {e : Env} {σ : Sto} :
    CallK T Q k os d e σ false i_slices_Clone_int [ints f c] ↔ Run T Q (.ops os :: k) (put e d (.ref σ.length c.length 0 c.length 1)) (σ ++ [.cells false (c.map fun n => .int .i64 n)]) := callK_shared (slices_Clone_int_spec hc hb)

abbrev encT (u : Cut) : AVal := .tup [ints u.f u.c, .int .i64 u.e]

theorem cut_merge_loop {g : SlF} {a b : List Int} {q : FuncId} {h : Int → Int → Int} (hq : ∀ {x y : Int} {lv : List Nat} {σ : Sto} {R : Post}, Cw T true q [.int .i64 x, .int .i64 y] lv σ R ↔ R (.int .i64 (h x y)) σ) (ha : a.length = 6) (hb : b.length = 6) : ∀ i, i ≤ 6 → ∀ o : List Int, o.length = 6 → o.drop i = a.drop i →
    Run T (Res [.tmp 6, .tmp 7] (.tup [ints .lst (o.take i ++ (List.zipWith h a b).drop i), .int .i64 0])) (.inLoop cut_merge.b0 :: cut_merge.k0) (mkE 40 [(2, .clo (.func q) [] []), (8, .ref 0 6 0 6 1), (21, ints g b), (22, .int .i64 b.length), (23, .int .i64 i)]) [.cells false (o.map fun n => .int .i64 n)] := by
  refine up_ind ?_ fun i hi ih o ho hd => ?_
  · intro o ho _
    rw [run_round, run_unfold cut_merge.b0.eq_1]
    rw [List.drop_eq_nil_of_le (by simp; omega), List.take_of_length_le (by omega)]
    simp (maxSteps := 2000000) only [go_sem, ↓reduceIte, Nat.reduceLT, Nat.reduceEqDiff, Nat.reduceLeDiff, Nat.reduceAdd, Nat.reduceSub, Nat.reduceMul, Int.reduceLT, Int.reduceLE, Int.reduceEq, Int.reduceNeg, run_unfold cut_merge.c0.eq_1, run_unfold cut_merge.c1.eq_1, cut_merge.k0, hb]
    rw [show (6 : Nat) = o.length from ho.symm, snap_ints (by rfl)]
    simp (maxSteps := 2000000) only [go_sem, ↓reduceIte, Nat.reduceLT, Nat.reduceEqDiff, Nat.reduceLeDiff, Nat.reduceAdd, Nat.reduceSub, Nat.reduceMul, Int.reduceLT, Int.reduceLE, Int.reduceEq, Int.reduceNeg]
  · rw [run_round, run_unfold cut_merge.b0.eq_1]
    have h1 : i < a.length := by omega
    have h2 : i < b.length := by omega
    have h3 : i < o.length := by omega
    have h4 : o[i] = a[i] := get_of_drop hd h3 h1
    simp (maxSteps := 2000000) only [go_sem, ↓reduceIte, Nat.reduceLT, Nat.reduceEqDiff, Nat.reduceLeDiff, Nat.reduceAdd, Nat.reduceSub, Nat.reduceMul, Int.reduceLT, Int.reduceLE, Int.reduceEq, Int.reduceNeg, h1, h2, h3, ho, show i < 6 by omega, callK_of hq, show i + 1 ≤ 6 by omega, wrap_succ (show i < 9223372036854775807 by omega)]
    have := ih (o.set i (h a[i] b[i])) (by simp [ho]) (by
      rw [List.drop_set_of_lt (by omega)]
      have := congrArg List.tail hd
      simpa using this)
    rw [drop_zipWith h1 h2, h4]
    rw [take_set_succ h3, List.append_assoc] at this
    exact this

theorem cut_Join_1_spec {a b : Int} {lv : List Nat} {σ : Sto} {R : Post} : Cw T true i_cut_Join_1 [.int .i64 a, .int .i64 b] lv σ R ↔ R (.int .i64 (if a < b then b else a)) σ := by
  refine cw_intro T_cut_Join_1 (by simp only [go_sem]) (by simp) ?_; rw [run_unfold cut_Join_1.main.eq_1]
  simp (maxSteps := 2000000) only [go_sem, ↓reduceIte, Nat.reduceLT, Nat.reduceEqDiff, Nat.reduceLeDiff, Nat.reduceAdd, Nat.reduceSub, Nat.reduceMul, Int.reduceLT, Int.reduceLE, Int.reduceEq, Int.reduceNeg]
@[go_sem] theorem cut_Join_1_call {a b : Int} {Q : Post3} {k : List Item} {os : List AOper} {d : Option Nat} {e : Env} {σ : Sto} : CallK T Q k os d e σ true i_cut_Join_1 [.int .i64 a, .int .i64 b] ↔ Run T Q (.ops os :: k) (put e d (.int .i64 (if a < b then b else a))) σ := cut_Join_1_spec

theorem cut_Meet_1_spec {a b : Int} {lv : List Nat} {σ : Sto} {R : Post} : Cw T true i_cut_Meet_1 [.int .i64 a, .int .i64 b] lv σ R ↔ R (.int .i64 (if b < a then b else a)) σ := by
  refine cw_intro T_cut_Meet_1 (by simp only [go_sem]) (by simp) ?_; rw [run_unfold cut_Meet_1.main.eq_1]
  simp (maxSteps := 2000000) only [go_sem, ↓reduceIte, Nat.reduceLT, Nat.reduceEqDiff, Nat.reduceLeDiff, Nat.reduceAdd, Nat.reduceSub, Nat.reduceMul, Int.reduceLT, Int.reduceLE, Int.reduceEq, Int.reduceNeg]

@[go_sem] theorem cut_Meet_1_call {a b : Int} {Q : Post3} {k : List Item} {os : List AOper} {d : Option Nat} {e : Env} {σ : Sto} : CallK T Q k os d e σ true i_cut_Meet_1 [.int .i64 a, .int .i64 b] ↔ Run T Q (.ops os :: k) (put e d (.int .i64 (if b < a then b else a))) σ := cut_Meet_1_spec


theorem cut_merge_spec {f g : SlF} {a b : List Int} {q : FuncId} {h : Int → Int → Int} (hq : ∀ {x y : Int} {lv : List Nat} {σ : Sto} {R : Post}, Cw T true q [.int .i64 x, .int .i64 y] lv σ R ↔ R (.int .i64 (h x y)) σ) {lv : List Nat} {σ : Sto} {R : Post} :
    Cw T true i_cut_merge [ints f a, ints g b, .clo (.func q) [] []] lv σ R ↔ R (encT (cutOf a b (List.zipWith h a b))) σ := by
  refine cw_intro T_cut_merge (by simp only [go_sem]) (by simp) ?_; rw [run_unfold cut_merge.main.eq_1]
  unfold cutOf
  cases ha : valid a
  case false => simp (maxSteps := 2000000) only [go_sem, ↓reduceIte, Nat.reduceLT, Nat.reduceEqDiff, Nat.reduceLeDiff, Nat.reduceAdd, Nat.reduceSub, Nat.reduceMul, Int.reduceLT, Int.reduceLE, Int.reduceEq, Int.reduceNeg, ha, encT]
  cases hb : valid b
  case false => simp (maxSteps := 2000000) only [go_sem, ↓reduceIte, Nat.reduceLT, Nat.reduceEqDiff, Nat.reduceLeDiff, Nat.reduceAdd, Nat.reduceSub, Nat.reduceMul, Int.reduceLT, Int.reduceLE, Int.reduceEq, Int.reduceNeg, hb, ha, encT]
  have la := valid_len ha
  have lb := valid_len hb
  have hne : a ≠ [] := by intro e; rw [e] at la; simp at la
  have hmx : a.length * 8 ≤ maxBytes := by unfold maxBytes; omega
  simp (maxSteps := 2000000) only [go_sem, ↓reduceIte, Nat.reduceLT, Nat.reduceEqDiff, Nat.reduceLeDiff, Nat.reduceAdd, Nat.reduceSub, Nat.reduceMul, Int.reduceLT, Int.reduceLE, Int.reduceEq, Int.reduceNeg, ha, hb, hne, hmx]
  have := cut_merge_loop (g := g) hq la lb 0 (by omega) a la rfl
  rw [la]
  exact this

theorem cut_Join_spec {f g : SlF} {a b : List Int} {lv : List Nat} {σ : Sto} {R : Post} : Cw T true i_cut_Join [ints f a, ints g b] lv σ R ↔ R (encT (cutOf a b (maxL a b))) σ := by
  refine cw_intro T_cut_Join (by simp only [go_sem]) (by simp) ?_; rw [run_unfold cut_Join.main.eq_1]
  simp (maxSteps := 2000000) only [go_sem, ↓reduceIte, Nat.reduceLT, Nat.reduceEqDiff, Nat.reduceLeDiff, Nat.reduceAdd, Nat.reduceSub, Nat.reduceMul, Int.reduceLT, Int.reduceLE, Int.reduceEq, Int.reduceNeg, callK_of (cut_merge_spec (h := fun x y => if x < y then y else x) cut_Join_1_spec)]
  rfl
@[go_sem] theorem cut_Join_call {f g : SlF} {a b : List Int} {Q : Post3} {k : List Item} {os : List AOper} {d : Option Nat} {e : Env} {σ : Sto} : CallK T Q k os d e σ true i_cut_Join [ints f a, ints g b] ↔ Run T Q (.ops os :: k) (put e d (encT (cutOf a b (maxL a b)))) σ := cut_Join_spec

theorem cut_Meet_spec {f g : SlF} {a b : List Int} {lv : List Nat} {σ : Sto} {R : Post} : Cw T true i_cut_Meet [ints f a, ints g b] lv σ R ↔ R (encT (cutOf a b (minL a b))) σ := by
  refine cw_intro T_cut_Meet (by simp only [go_sem]) (by simp) ?_; rw [run_unfold cut_Meet.main.eq_1]
  simp (maxSteps := 2000000) only [go_sem, ↓reduceIte, Nat.reduceLT, Nat.reduceEqDiff, Nat.reduceLeDiff, Nat.reduceAdd, Nat.reduceSub, Nat.reduceMul, Int.reduceLT, Int.reduceLE, Int.reduceEq, Int.reduceNeg, callK_of (cut_merge_spec (h := fun x y => if y < x then y else x) cut_Meet_1_spec)]
  rfl
@[go_sem] theorem cut_Meet_call {f g : SlF} {a b : List Int} {Q : Post3} {k : List Item} {os : List AOper} {d : Option Nat} {e : Env} {σ : Sto} : CallK T Q k os d e σ true i_cut_Meet [ints f a, ints g b] ↔ Run T Q (.ops os :: k) (put e d (encT (cutOf a b (minL a b)))) σ := cut_Meet_spec

theorem l20_join_spec {f g : SlF} {a b : List Int} {lv : List Nat} {σ : Sto} {R : Post} : Cw T true i_l20_join [ints f a, ints g b] lv σ R ↔ R (encU (cutOf a b (maxL a b))) σ := by
  refine cw_intro T_l20_join (by simp only [go_sem]) (by simp) ?_; rw [run_unfold l20_join.main.eq_1]
  simp (maxSteps := 2000000) only [go_sem, ↓reduceIte, Nat.reduceLT, Nat.reduceEqDiff, Nat.reduceLeDiff, Nat.reduceAdd, Nat.reduceSub, Nat.reduceMul, Int.reduceLT, Int.reduceLE, Int.reduceEq, Int.reduceNeg]
@[go_sem] theorem l20_join_call {f g : SlF} {a b : List Int} {Q : Post3} {k : List Item} {os : List AOper} {d : Option Nat} {e : Env} {σ : Sto} : CallK T Q k os d e σ true i_l20_join [ints f a, ints g b] ↔ Run T Q (.ops os :: k) (put e d (encU (cutOf a b (maxL a b)))) σ := l20_join_spec

theorem l20_meet_spec {f g : SlF} {a b : List Int} {lv : List Nat} {σ : Sto} {R : Post} : Cw T true i_l20_meet [ints f a, ints g b] lv σ R ↔ R (encU (cutOf a b (minL a b))) σ := by
  refine cw_intro T_l20_meet (by simp only [go_sem]) (by simp) ?_; rw [run_unfold l20_meet.main.eq_1]
  simp (maxSteps := 2000000) only [go_sem, ↓reduceIte, Nat.reduceLT, Nat.reduceEqDiff, Nat.reduceLeDiff, Nat.reduceAdd, Nat.reduceSub, Nat.reduceMul, Int.reduceLT, Int.reduceLE, Int.reduceEq, Int.reduceNeg]
@[go_sem] theorem l20_meet_call {f g : SlF} {a b : List Int} {Q : Post3} {k : List Item} {os : List AOper} {d : Option Nat} {e : Env} {σ : Sto} : CallK T Q k os d e σ true i_l20_meet [ints f a, ints g b] ↔ Run T Q (.ops os :: k) (put e d (encU (cutOf a b (minL a b)))) σ := l20_meet_spec


end Go.Abs
/- Walks of chapter 20: orders, names, closed cuts of the reference. -/
set_option linter.unusedSimpArgs false
set_option linter.unusedVariables false
namespace Go.Abs
open Go

/-! ### The fixed order -/
def orI (l : List Int) : Int := (l.find? fun x => decide (x ≠ 0)).getD 0

theorem cmp_Or_int_loop {f : SlF} {l : List Int} (hl : Fits l) : ∀ i, i ≤ l.length →
    Run T (Res [.tmp 2] (.int .i64 (orI (l.drop i)))) (.inLoop cmp_Or_int.b0 :: cmp_Or_int.k0) (mkE 18 [(3, .int .i64 0), (6, ints f l), (7, .int .i64 l.length), (8, .int .i64 i)]) [] := by
  refine up_ind ?_ fun i hi ih => ?_
  · rw [run_round, run_unfold cmp_Or_int.b0.eq_1]
    simp (maxSteps := 2000000) only [go_sem, ↓reduceIte, Nat.reduceLT, Nat.reduceEqDiff, Nat.reduceLeDiff, Nat.reduceAdd, Nat.reduceSub, Nat.reduceMul, Int.reduceLT, Int.reduceLE, Int.reduceEq, Int.reduceNeg, run_unfold cmp_Or_int.c0.eq_1, cmp_Or_int.k0, List.drop_length, orI, List.find?_nil, Option.getD_none]
  · rw [run_round, run_unfold cmp_Or_int.b0.eq_1]
    rw [List.drop_eq_getElem_cons hi]
    by_cases h : l[i] = 0
    · simp (maxSteps := 2000000) only [go_sem, ↓reduceIte, Nat.reduceLT, Nat.reduceEqDiff, Nat.reduceLeDiff, Nat.reduceAdd, Nat.reduceSub, Nat.reduceMul, Int.reduceLT, Int.reduceLE, Int.reduceEq, Int.reduceNeg, hi, h, orI, List.find?_cons, wrap_succ (show i < 9223372036854775807 by omega)]
      exact ih
    · simp (maxSteps := 2000000) only [go_sem, ↓reduceIte, Nat.reduceLT, Nat.reduceEqDiff, Nat.reduceLeDiff, Nat.reduceAdd, Nat.reduceSub, Nat.reduceMul, Int.reduceLT, Int.reduceLE, Int.reduceEq, Int.reduceNeg, hi, h, orI, List.find?_cons, Option.getD_some]

theorem cmp_Or_int_spec {f : SlF} {l : List Int} (hl : Fits l) {lv : List Nat} {σ : Sto} {R : Post} : Cw T true i_cmp_Or_int [ints f l] lv σ R ↔ R (.int .i64 (orI l)) σ := by
  refine cw_intro T_cmp_Or_int (by simp only [go_sem]) (by simp) ?_; rw [run_unfold cmp_Or_int.main.eq_1]
  simp (maxSteps := 2000000) only [go_sem, ↓reduceIte, Nat.reduceLT, Nat.reduceEqDiff, Nat.reduceLeDiff, Nat.reduceAdd, Nat.reduceSub, Nat.reduceMul, Int.reduceLT, Int.reduceLE, Int.reduceEq, Int.reduceNeg]
  exact cmp_Or_int_loop hl 0 (by omega)
@[go_sem] theorem cmp_Or_int_call {f : SlF} {l : List Int} (hl : Fits l) {Q : Post3} {k : List Item} {os : List AOper} {d : Option Nat} {e : Env} {σ : Sto} : CallK T Q k os d e σ true i_cmp_Or_int [ints f l] ↔ Run T Q (.ops os :: k) (put e d (.int .i64 (orI l))) σ := cmp_Or_int_spec hl


theorem snap_lit {σ : Sto} {o m : Nat} {c : List Int} (hσ : σ[o]? = some (.cells false (c.map fun n => AVal.int .i64 n))) (hm : c.length = m) : snapA σ 64 (.ref o m 0 m 1) = some (ints .lst c) := by
  subst hm; exact snap_ints (n := 62) hσ

def cmpC (a b : Com) : Int := orI [cmpI (sumW a.past) (sumW b.past), cmpI a.st b.st, cmpI a.seq b.seq]

theorem cut_compare_spec {a b : Com} (ha : Fits a.past) (hb : Fits b.past) {lv : List Nat} {σ : Sto} {R : Post} : Cw T true i_cut_compare [encC a, encC b] lv σ R ↔ R (.int .i64 (cmpC a b)) σ := by
  refine cw_intro T_cut_compare (by simp only [go_sem]) (by simp) ?_; rw [run_unfold cut_compare.main.eq_1]
  simp (maxSteps := 2000000) only [go_sem, ↓reduceIte, Nat.reduceLT, Nat.reduceEqDiff, Nat.reduceLeDiff, Nat.reduceAdd, Nat.reduceSub, Nat.reduceMul, Int.reduceLT, Int.reduceLE, Int.reduceEq, Int.reduceNeg, ha, hb]
  rw [callK_live T_cmp_Or_int (as := [ints .lst [cmpI (sumW a.past) (sumW b.past), cmpI a.st b.st, cmpI a.seq b.seq]]) (cmp_Or_int_spec (by unfold Fits; simp)) (by
    rw [mapM_scons, mapM_snil, snapDepth_eq, snap_lit (c := [cmpI (sumW a.past) (sumW b.past), cmpI a.st b.st, cmpI a.seq b.seq]) (by rfl) (by rfl)]) rfl rfl]
  simp (maxSteps := 2000000) only [go_sem, ↓reduceIte, Nat.reduceLT, Nat.reduceEqDiff, Nat.reduceLeDiff, Nat.reduceAdd, Nat.reduceSub, Nat.reduceMul, Int.reduceLT, Int.reduceLE, Int.reduceEq, Int.reduceNeg, cmpC]
@[go_sem] theorem cut_compare_call {a b : Com} (ha : Fits a.past) (hb : Fits b.past) {Q : Post3} {k : List Item} {os : List AOper} {d : Option Nat} {e : Env} {σ : Sto} : CallK T Q k os d e σ true i_cut_compare [encC a, encC b] ↔ Run T Q (.ops os :: k) (put e d (.int .i64 (cmpC a b))) σ := cut_compare_spec ha hb


theorem fits_of_valid {c : List Int} (h : valid c = true) : Fits c := by have := valid_len h; unfold Fits; omega

def befC (a b : Com) : Bool := wf a && wf b && decide (cmpC a b < 0)

theorem past_fits {c : Com} (h : wf c = true) : Fits c.past := fits_of_valid (wf_parts h).2.2.2.2.1

theorem cut_Before_spec {a b : Com} {lv : List Nat} {σ : Sto} {R : Post} : Cw T true i_cut_Before [encC a, encC b] lv σ R ↔ R (.bool (befC a b)) σ := by
  refine cw_intro T_cut_Before (by simp only [go_sem]) (by simp) ?_; rw [run_unfold cut_Before.main.eq_1]
  unfold befC
  cases h1 : wf a
  case false => simp (maxSteps := 2000000) only [go_sem, ↓reduceIte, Nat.reduceLT, Nat.reduceEqDiff, Nat.reduceLeDiff, Nat.reduceAdd, Nat.reduceSub, Nat.reduceMul, Int.reduceLT, Int.reduceLE, Int.reduceEq, Int.reduceNeg, h1]
  cases h2 : wf b
  case false => simp (maxSteps := 2000000) only [go_sem, ↓reduceIte, Nat.reduceLT, Nat.reduceEqDiff, Nat.reduceLeDiff, Nat.reduceAdd, Nat.reduceSub, Nat.reduceMul, Int.reduceLT, Int.reduceLE, Int.reduceEq, Int.reduceNeg, h2, h1]
  simp (maxSteps := 2000000) only [go_sem, ↓reduceIte, Nat.reduceLT, Nat.reduceEqDiff, Nat.reduceLeDiff, Nat.reduceAdd, Nat.reduceSub, Nat.reduceMul, Int.reduceLT, Int.reduceLE, Int.reduceEq, Int.reduceNeg, h1, h2, past_fits h1, past_fits h2]
@[go_sem] theorem cut_Before_call {a b : Com} {Q : Post3} {k : List Item} {os : List AOper} {d : Option Nat} {e : Env} {σ : Sto} : CallK T Q k os d e σ true i_cut_Before [encC a, encC b] ↔ Run T Q (.ops os :: k) (put e d (.bool (befC a b))) σ := cut_Before_spec


theorem cmpC_lt (a b : Com) : decide (cmpC a b < 0) = if decide (sumW a.past = sumW b.past) = true then (if decide (a.st = b.st) = true then decide (a.seq < b.seq) else decide (a.st < b.st)) else decide (sumW a.past < sumW b.past) := by
  have hz : ∀ x y : Int, (cmpI x y = 0 ↔ x = y) ∧ (cmpI x y < 0 ↔ x < y) := by
    intro x y
    unfold cmpI
    split
    · constructor <;> constructor <;> intro <;> omega
    · split
      · constructor <;> constructor <;> intro <;> omega
      · constructor <;> constructor <;> intro <;> omega
  unfold cmpC orI
  by_cases h1 : sumW a.past = sumW b.past
  · rw [if_pos (by simp [h1])]
    have e1 := (hz _ _).1.2 h1
    by_cases h2 : a.st = b.st
    · rw [if_pos (by simp [h2])]
      have e2 := (hz _ _).1.2 h2
      by_cases h3 : a.seq = b.seq
      · have e3 := (hz _ _).1.2 h3
        have h4 : ¬ a.seq < b.seq := by omega
        simp [List.find?_cons, e1, e2, e3, h4]
      · have : cmpI a.seq b.seq ≠ 0 := fun e => h3 ((hz _ _).1.1 e)
        simp [List.find?_cons, e1, e2, this, (hz a.seq b.seq).2]
    · rw [if_neg (by simp [h2])]
      have : cmpI a.st b.st ≠ 0 := fun e => h2 ((hz _ _).1.1 e)
      simp [List.find?_cons, e1, this, (hz a.st b.st).2]
  · rw [if_neg (by simp [h1])]
    have : cmpI (sumW a.past) (sumW b.past) ≠ 0 := fun e => h1 ((hz _ _).1.1 e)
    simp [List.find?_cons, this, (hz (sumW a.past) (sumW b.past)).2]

theorem r20_Before_spec {a b : Com} {lv : List Nat} {σ : Sto} {R : Post} : Cw T true i_r20_Before [encC a, encC b] lv σ R ↔ R (.bool (befC a b)) σ := by
  refine cw_intro T_r20_Before (by simp only [go_sem]) (by simp) ?_; rw [run_unfold r20_Before.main.eq_1]
  unfold befC
  rw [cmpC_lt]
  cases h1 : wf a
  case false => simp (maxSteps := 2000000) only [go_sem, ↓reduceIte, Nat.reduceLT, Nat.reduceEqDiff, Nat.reduceLeDiff, Nat.reduceAdd, Nat.reduceSub, Nat.reduceMul, Int.reduceLT, Int.reduceLE, Int.reduceEq, Int.reduceNeg, h1]
  cases h2 : wf b
  case false => simp (maxSteps := 2000000) only [go_sem, ↓reduceIte, Nat.reduceLT, Nat.reduceEqDiff, Nat.reduceLeDiff, Nat.reduceAdd, Nat.reduceSub, Nat.reduceMul, Int.reduceLT, Int.reduceLE, Int.reduceEq, Int.reduceNeg, h2, h1]
  cases h3 : decide (sumW a.past = sumW b.past)
  · simp (maxSteps := 2000000) only [go_sem, ↓reduceIte, Nat.reduceLT, Nat.reduceEqDiff, Nat.reduceLeDiff, Nat.reduceAdd, Nat.reduceSub, Nat.reduceMul, Int.reduceLT, Int.reduceLE, Int.reduceEq, Int.reduceNeg, h1, h2, past_fits h1, past_fits h2, h3]
  · cases h4 : decide (a.st = b.st)
    · simp (maxSteps := 2000000) only [go_sem, ↓reduceIte, Nat.reduceLT, Nat.reduceEqDiff, Nat.reduceLeDiff, Nat.reduceAdd, Nat.reduceSub, Nat.reduceMul, Int.reduceLT, Int.reduceLE, Int.reduceEq, Int.reduceNeg, h1, h2, past_fits h1, past_fits h2, h3, h4]
    · simp (maxSteps := 2000000) only [go_sem, ↓reduceIte, Nat.reduceLT, Nat.reduceEqDiff, Nat.reduceLeDiff, Nat.reduceAdd, Nat.reduceSub, Nat.reduceMul, Int.reduceLT, Int.reduceLE, Int.reduceEq, Int.reduceNeg, h1, h2, past_fits h1, past_fits h2, h3, h4]
@[go_sem] theorem r20_Before_call {a b : Com} {Q : Post3} {k : List Item} {os : List AOper} {d : Option Nat} {e : Env} {σ : Sto} : CallK T Q k os d e σ true i_r20_Before [encC a, encC b] ↔ Run T Q (.ops os :: k) (put e d (.bool (befC a b))) σ := r20_Before_spec


/-! ### Names -/
@[go_sem] theorem eqsV_name {neg : Bool} {a b c d : Int} {σ : Sto} : eqsV neg (.row [(0, 1, false, .int .i64), (1, 1, false, .int .i64)]) (.agg [.int .i64 a, .int .i64 b]) (.agg [.int .i64 c, .int .i64 d]) σ = some (.bool (if neg = true then !(decide (a = c) && decide (b = d)) else (decide (a = c) && decide (b = d))), σ) := by
  have : eqA (.row [(0, 1, false, .int .i64), (1, 1, false, .int .i64)]) (.agg [.int .i64 a, .int .i64 b]) (.agg [.int .i64 c, .int .i64 d]) = some (decide (a = c) && decide (b = d)) := by
    simp only [eqA, eqParts]
    by_cases h : a = c
    · subst h
      by_cases h2 : b = d
      · subst h2; simp
      · simp [h2]
    · simp [h]
  simp only [eqsV, this]
  cases neg <;> rfl

def isN (n : Nam) (c : Com) : Bool := decide (c.st = n.st) && decide (c.seq = n.seq)

@[go_sem] theorem iaddrV_coms {f : SlF} {l : List Com} {kd : IntKind} {i : Nat} {σ : Sto} (h : i < l.length) : iaddrV 5 (sv 5 f (l.map encC)) (.int kd (i : Int)) σ = some (.fptr [.int .i64 l[i].st, .int .i64 l[i].seq, ints l[i].pf l[i].past, .int .i64 l[i].ver, l[i].ops], σ) := iaddrV_map h
abbrev coms (f : SlF) (l : List Com) : AVal := sv 5 f (l.map encC)

theorem r20_Find_loop {f : SlF} {l : List Com} {n : Nam} (hl : Fits l) : ∀ i, i ≤ l.length →
    Run T (Res [.tmp 4] (.int .i64 (match (l.drop i).findIdx? (isN n) with | some j => (i + j : Nat) | none => -1))) (.inLoop r20_Find.b0 :: r20_Find.k0) (mkE 20 [(0, coms f l), (3, .ptr 0 2 0), (5, .int .i64 i)]) [.cells false (encN n).cells] := by
  refine up_ind ?_ fun i hi ih => ?_
  · rw [run_round, run_unfold r20_Find.b0.eq_1]
    simp (maxSteps := 2000000) only [go_sem, ↓reduceIte, Nat.reduceLT, Nat.reduceEqDiff, Nat.reduceLeDiff, Nat.reduceAdd, Nat.reduceSub, Nat.reduceMul, Int.reduceLT, Int.reduceLE, Int.reduceEq, Int.reduceNeg, run_unfold r20_Find.c0.eq_1, r20_Find.k0, List.drop_length, List.findIdx?_nil]
  · rw [run_round, run_unfold r20_Find.b0.eq_1]
    rw [List.drop_eq_getElem_cons hi]
    have hno : isN n l[i] = false → Run T (Res [.tmp 4] (.int .i64 (match (Option.map (fun i => i + 1) ((l.drop (i + 1)).findIdx? (isN n))) with | some j => (i + j : Nat) | none => -1))) (.inLoop r20_Find.b0 :: r20_Find.k0) (mkE 20 [(0, coms f l), (3, .ptr 0 2 0), (5, .int .i64 ((i + 1 : Nat) : Int))]) [.cells false (encN n).cells] := by
      intro _
      refine Eq.mp (congrArg (fun v => Run T (Res [.tmp 4] (.int .i64 v)) _ _ _) ?_) ih
      cases (l.drop (i + 1)).findIdx? (isN n) with
      | none => rfl
      | some j => simp; omega
    by_cases h1 : l[i].st = n.st
    · by_cases h2 : l[i].seq = n.seq
      · simp (maxSteps := 2000000) only [go_sem, ↓reduceIte, Nat.reduceLT, Nat.reduceEqDiff, Nat.reduceLeDiff, Nat.reduceAdd, Nat.reduceSub, Nat.reduceMul, Int.reduceLT, Int.reduceLE, Int.reduceEq, Int.reduceNeg, hi, List.findIdx?_cons, isN, h1, h2]
      · have h3 : isN n l[i] = false := by simp [isN, h2]
        simp (maxSteps := 2000000) only [go_sem, ↓reduceIte, Nat.reduceLT, Nat.reduceEqDiff, Nat.reduceLeDiff, Nat.reduceAdd, Nat.reduceSub, Nat.reduceMul, Int.reduceLT, Int.reduceLE, Int.reduceEq, Int.reduceNeg, hi, List.findIdx?_cons, h3, h1, h2, wrap_succ (show i < 9223372036854775807 by omega)]
        exact hno h3
    · have h3 : isN n l[i] = false := by simp [isN, h1]
      simp (maxSteps := 2000000) only [go_sem, ↓reduceIte, Nat.reduceLT, Nat.reduceEqDiff, Nat.reduceLeDiff, Nat.reduceAdd, Nat.reduceSub, Nat.reduceMul, Int.reduceLT, Int.reduceLE, Int.reduceEq, Int.reduceNeg, hi, List.findIdx?_cons, h3, h1, wrap_succ (show i < 9223372036854775807 by omega)]
      exact hno h3

theorem r20_Find_spec {f : SlF} {l : List Com} {st seq : Int} (hl : Fits l) {lv : List Nat} {σ : Sto} {R : Post} : Cw T true i_r20_Find [coms f l, .agg [.int .i64 st, .int .i64 seq]] lv σ R ↔ R (.int .i64 (idxOf (isN ⟨st, seq⟩) l)) σ := by
  refine cw_intro T_r20_Find (by simp only [go_sem]) (by simp) ?_; rw [run_unfold r20_Find.main.eq_1]
  simp (maxSteps := 2000000) only [go_sem, ↓reduceIte, Nat.reduceLT, Nat.reduceEqDiff, Nat.reduceLeDiff, Nat.reduceAdd, Nat.reduceSub, Nat.reduceMul, Int.reduceLT, Int.reduceLE, Int.reduceEq, Int.reduceNeg]
  have := r20_Find_loop (f := f) (n := ⟨st, seq⟩) hl 0 (by omega)
  simp only [List.drop_zero, Nat.zero_add] at this
  exact this
@[go_sem] theorem r20_Find_call {f : SlF} {l : List Com} {st seq : Int} (hl : Fits l) {Q : Post3} {k : List Item} {os : List AOper} {d : Option Nat} {e : Env} {σ : Sto} : CallK T Q k os d e σ true i_r20_Find [coms f l, .agg [.int .i64 st, .int .i64 seq]] ↔ Run T Q (.ops os :: k) (put e d (.int .i64 (idxOf (isN ⟨st, seq⟩) l))) σ := r20_Find_spec hl


end Go.Abs
/- Walks of chapter 20: the reference's closed cuts. -/
set_option linter.unusedSimpArgs false
set_option linter.unusedVariables false
namespace Go.Abs
open Go

abbrev bytesV (f : SlF) (b : List Nat) : AVal := sv 1 f (b.map fun n => .int .u8 ((n : Nat) : Int))
abbrev zeros : List Int := [0, 0, 0, 0, 0, 0]

theorem r20_Zero_shared {σ : Sto} {R : Post} : Cw T false i_r20_Zero [] [] σ R ↔ R (.ref σ.length 6 0 6 1) (σ ++ [.cells false (zeros.map fun n => .int .i64 n)]) := by
  rw [cw_enter T_r20_Zero (by simp), run_unfold r20_Zero.main.eq_1]
  simp (maxSteps := 2000000) only [go_sem, ↓reduceIte, Nat.reduceLT, Nat.reduceEqDiff, Nat.reduceLeDiff, Nat.reduceAdd, Nat.reduceSub, Nat.reduceMul, Int.reduceLT, Int.reduceLE, Int.reduceEq, Int.reduceNeg]
  rw [show mksliceV 1 8 [AVal.int IntKind.i64 0] (AVal.int IntKind.i64 6) (AVal.int IntKind.i64 6) σ = some (.ref σ.length 6 0 6 1, σ ++ [.cells false (zeros.map fun n => .int .i64 n)]) from rfl]
  simp (maxSteps := 2000000) only [go_sem, ↓reduceIte, Nat.reduceLT, Nat.reduceEqDiff, Nat.reduceLeDiff, Nat.reduceAdd, Nat.reduceSub, Nat.reduceMul, Int.reduceLT, Int.reduceLE, Int.reduceEq, Int.reduceNeg]
@[go_sem] theorem r20_Zero_call' {Q : Post3} {k : List Item} {os : List AOper} {d : Option Nat} {e : Env} {σ : Sto} : CallK T Q k os d e σ false i_r20_Zero [] ↔ Run T Q (.ops os :: k) (put e d (.ref σ.length 6 0 6 1)) (σ ++ [.cells false (zeros.map fun n => .int .i64 n)]) := callK_shared r20_Zero_shared

theorem r20_All_loop : ∀ i, i ≤ 6 → ∀ o : List Int, o.length = i →
    Run T (Res [.tmp 0] (ints .lst (o ++ List.replicate (6 - i) 999))) (.inLoop r20_All.b0 :: r20_All.k0) (mkE 12 [(1, .ref 0 o.length 0 o.length 1), (2, .int .i64 i)]) [.cells false (o.map fun n => .int .i64 n)] := by
  refine up_ind ?_ fun i hi ih o ho => ?_
  · intro o ho
    rw [run_round, run_unfold r20_All.b0.eq_1]
    simp (maxSteps := 2000000) only [go_sem, ↓reduceIte, Nat.reduceLT, Nat.reduceEqDiff, Nat.reduceLeDiff, Nat.reduceAdd, Nat.reduceSub, Nat.reduceMul, Int.reduceLT, Int.reduceLE, Int.reduceEq, Int.reduceNeg, run_unfold r20_All.c0.eq_1, r20_All.k0, show (List.replicate (6 - 6) (999 : Int)) = [] from rfl]
    rw [snap_ints (by rfl)]
  · rw [run_round, run_unfold r20_All.b0.eq_1]
    simp (maxSteps := 2000000) only [go_sem, ↓reduceIte, Nat.reduceLT, Nat.reduceEqDiff, Nat.reduceLeDiff, Nat.reduceAdd, Nat.reduceSub, Nat.reduceMul, Int.reduceLT, Int.reduceLE, Int.reduceEq, Int.reduceNeg, show ((i : Int) < 6) by omega]
    rw [appendV_push (by rfl) (by rfl) (by simp) rfl (by unfold maxBytes; omega)]
    simp (maxSteps := 2000000) only [go_sem, ↓reduceIte, Nat.reduceLT, Nat.reduceEqDiff, Nat.reduceLeDiff, Nat.reduceAdd, Nat.reduceSub, Nat.reduceMul, Int.reduceLT, Int.reduceLE, Int.reduceEq, Int.reduceNeg, wrap_succ (show i < 9223372036854775807 by omega)]
    have := ih (o ++ [999]) (by simp [ho])
    rw [show 6 - i = (6 - (i + 1)) + 1 by omega, List.replicate_succ]
    simpa using this

theorem r20_All_spec  {lv : List Nat} {σ : Sto} {R : Post} : Cw T true i_r20_All [] lv σ R ↔ R (ints .lst [999, 999, 999, 999, 999, 999]) σ := by
  refine cw_intro T_r20_All (by simp only [go_sem]) (by simp) ?_; rw [run_unfold r20_All.main.eq_1]
  simp (maxSteps := 2000000) only [go_sem, ↓reduceIte, Nat.reduceLT, Nat.reduceEqDiff, Nat.reduceLeDiff, Nat.reduceAdd, Nat.reduceSub, Nat.reduceMul, Int.reduceLT, Int.reduceLE, Int.reduceEq, Int.reduceNeg]
  exact r20_All_loop 0 (by omega) [] rfl
@[go_sem] theorem r20_All_call  {Q : Post3} {k : List Item} {os : List AOper} {d : Option Nat} {e : Env} {σ : Sto} : CallK T Q k os d e σ true i_r20_All [] ↔ Run T Q (.ops os :: k) (put e d (ints .lst [999, 999, 999, 999, 999, 999])) σ := r20_All_spec


def own (c : Com) : List Int := c.past.set c.st.toNat c.seq

theorem r20_Own_spec {c : Com} (h1 : 0 ≤ c.st) (h2 : c.st.toNat < c.past.length) (h3 : c.past.length * 8 ≤ maxBytes) {lv : List Nat} {σ : Sto} {R : Post} : Cw T true i_r20_Own [encC c] lv σ R ↔ R (ints .lst (own c)) σ := by
  refine cw_intro T_r20_Own (by simp only [go_sem]) (by simp) ?_; rw [run_unfold r20_Own.main.eq_1]
  simp (maxSteps := 2000000) only [go_sem, ↓reduceIte, Nat.reduceLT, Nat.reduceEqDiff, Nat.reduceLeDiff, Nat.reduceAdd, Nat.reduceSub, Nat.reduceMul, Int.reduceLT, Int.reduceLE, Int.reduceEq, Int.reduceNeg]
  rw [appendV_fresh (by rfl) rowOf_ints (by simp) (by decide) (by simp [AVal.one]) h3]
  obtain ⟨n, hn⟩ := Int.eq_ofNat_of_zero_le h1
  rw [hn] at h2 ⊢
  have h2' : n < c.past.length := by simpa using h2
  have h4 : n + 1 ≤ c.past.length := h2'
  simp (maxSteps := 2000000) only [go_sem, ↓reduceIte, Nat.reduceLT, Nat.reduceEqDiff, Nat.reduceLeDiff, Nat.reduceAdd, Nat.reduceSub, Nat.reduceMul, Int.reduceLT, Int.reduceLE, Int.reduceEq, Int.reduceNeg, h2', h4]
  have e : own c = c.past.set n c.seq := by unfold own; rw [hn]; rfl
  rw [e, show c.past.length = (c.past.set n c.seq).length by simp]
  exact snap_ints rfl
@[go_sem] theorem r20_Own_call {c : Com} (h1 : 0 ≤ c.st) (h2 : c.st.toNat < c.past.length) (h3 : c.past.length * 8 ≤ maxBytes) {Q : Post3} {k : List Item} {os : List AOper} {d : Option Nat} {e : Env} {σ : Sto} : CallK T Q k os d e σ true i_r20_Own [encC c] ↔ Run T Q (.ops os :: k) (put e d (ints .lst (own c))) σ := r20_Own_spec h1 h2 h3


def limF : List Nat → List Int → List Int
  | _, [] => []
  | [], o => o
  | x :: b, _ :: o => ((x % 6 : Nat) : Int) :: limF b o
theorem limF_nil (o : List Int) : limF [] o = o := by cases o <;> rfl
theorem limF_len : ∀ (b : List Nat) (o : List Int), (limF b o).length = o.length
  | _, [] => by simp [limF]
  | [], _ :: _ => rfl
  | x :: b, _ :: o => by simp [limF, limF_len b o]

theorem rem6 (x : Nat) : IntKind.i64.wrap (Int.tmod (x : Int) 6) = ((x % 6 : Nat) : Int) := by
  have : Int.tmod (x : Int) 6 = ((x % 6 : Nat) : Int) := rfl
  rw [this]
  have : x % 6 < 6 := Nat.mod_lt _ (by decide)
  exact wrap_i64 (by omega) (by omega)

theorem r20_Limit_loop {f : SlF} {b : List Nat} (hb : Fits b) : ∀ i, i ≤ 6 → ∀ o : List Int, o.length = 6 →
    Run T (Res [.tmp 2] (ints .lst (o.take i ++ limF (b.drop i) (o.drop i)))) (.inLoop r20_Limit.b0 :: r20_Limit.k0) (mkE 28 [(0, bytesV f b), (3, .ref 0 6 0 6 1), (4, .int .i64 i)]) [.cells false (o.map fun n => .int .i64 n)] := by
  refine up_ind ?_ fun i hi ih o ho => ?_
  · intro o ho
    rw [run_round, run_unfold r20_Limit.b0.eq_1]
    rw [List.take_of_length_le (by omega), List.drop_eq_nil_of_le (as := o) (by omega), show limF (b.drop 6) [] = [] by cases (b.drop 6) <;> rfl]
    simp (maxSteps := 2000000) only [go_sem, ↓reduceIte, Nat.reduceLT, Nat.reduceEqDiff, Nat.reduceLeDiff, Nat.reduceAdd, Nat.reduceSub, Nat.reduceMul, Int.reduceLT, Int.reduceLE, Int.reduceEq, Int.reduceNeg, run_unfold r20_Limit.c0.eq_1, r20_Limit.k0, ho]
    rw [show (6 : Nat) = o.length from ho.symm, snap_ints (by rfl)]
  · rw [run_round, run_unfold r20_Limit.b0.eq_1]
    have h3 : i < o.length := by omega
    by_cases h : i < b.length
    · simp (maxSteps := 2000000) only [go_sem, ↓reduceIte, Nat.reduceLT, Nat.reduceEqDiff, Nat.reduceLeDiff, Nat.reduceAdd, Nat.reduceSub, Nat.reduceMul, Int.reduceLT, Int.reduceLE, Int.reduceEq, Int.reduceNeg, ho, h, show ((i : Int) < 6) by omega, show (i < 6) by omega, binV_rem, rem6, show i + 1 ≤ 6 by omega, h3, wrap_succ (show i < 9223372036854775807 by omega), show ¬ ((6 : Int) = 0) by omega]
      have := ih (o.set i ((b[i] % 6 : Nat) : Int)) (by simp [ho])
      rw [List.drop_eq_getElem_cons h, List.drop_eq_getElem_cons h3, limF]
      rw [take_set_succ h3, List.append_assoc, List.drop_set_of_lt (by omega)] at this
      exact this
    · rw [List.drop_eq_nil_of_le (as := b) (by omega), limF_nil, List.take_append_drop]
      simp (maxSteps := 2000000) only [go_sem, ↓reduceIte, Nat.reduceLT, Nat.reduceEqDiff, Nat.reduceLeDiff, Nat.reduceAdd, Nat.reduceSub, Nat.reduceMul, Int.reduceLT, Int.reduceLE, Int.reduceEq, Int.reduceNeg, run_unfold r20_Limit.c0.eq_1, r20_Limit.k0, ho, h, show ((i : Int) < 6) by omega]
      rw [show (6 : Nat) = o.length from ho.symm, snap_ints (by rfl)]

def limit (b : List Nat) : List Int := limF b zeros

theorem r20_Limit_spec {f : SlF} {b : List Nat} (hb : Fits b) {lv : List Nat} {σ : Sto} {R : Post} : Cw T true i_r20_Limit [bytesV f b] lv σ R ↔ R (ints .lst (limit b)) σ := by
  refine cw_intro T_r20_Limit (by simp only [go_sem]) (by simp) ?_; rw [run_unfold r20_Limit.main.eq_1]
  simp (maxSteps := 2000000) only [go_sem, ↓reduceIte, Nat.reduceLT, Nat.reduceEqDiff, Nat.reduceLeDiff, Nat.reduceAdd, Nat.reduceSub, Nat.reduceMul, Int.reduceLT, Int.reduceLE, Int.reduceEq, Int.reduceNeg]
  exact r20_Limit_loop hb 0 (by omega) zeros rfl
@[go_sem] theorem r20_Limit_call {f : SlF} {b : List Nat} (hb : Fits b) {Q : Post3} {k : List Item} {os : List AOper} {d : Option Nat} {e : Env} {σ : Sto} : CallK T Q k os d e σ true i_r20_Limit [bytesV f b] ↔ Run T Q (.ops os :: k) (put e d (ints .lst (limit b))) σ := r20_Limit_spec hb


/-! ### What a list of commits has -/
theorem idxOf_cases {α : Type} (p : α → Bool) (l : List α) : (idxOf p l = -1 ∧ l.find? p = none) ∨ ∃ (j : Nat) (h : j < l.length), idxOf p l = (j : Int) ∧ l.find? p = some l[j] := by
  unfold idxOf
  cases h : l.findIdx? p with
  | none =>
    left
    refine ⟨rfl, ?_⟩
    rw [List.find?_eq_none]
    rw [List.findIdx?_eq_none_iff] at h
    intro x hx; simp [h x hx]
  | some j =>
    right
    obtain ⟨hj, hp, hlt⟩ := List.findIdx?_eq_some_iff_getElem.1 h
    refine ⟨j, hj, rfl, ?_⟩
    rw [List.find?_eq_some_iff_getElem]
    exact ⟨hp, j, hj, rfl, fun k hk => by simpa using hlt k hk⟩

def knownL (l : List Com) (past : List Int) : Nat → List Int → Bool
  | _, [] => true
  | s, q :: qs => (if q = 0 then true else match l.find? (isN ⟨s, q⟩) with
    | some c => leq c.past past
    | none => false) && knownL l past (s + 1) qs

theorem r20_known_loop {f g : SlF} {l : List Com} {past : List Int} (hl : Fits l) (hp : Fits past) : ∀ i, i ≤ past.length →
    Run T (Res [.tmp 4] (.bool (knownL l past i (past.drop i)))) (.inLoop r20_known.b0 :: r20_known.k0) (mkE 38 [(0, coms f l), (1, ints g past), (5, .int .i64 i)]) [] := by
  refine up_ind ?_ fun i hi ih => ?_
  · rw [run_round, run_unfold r20_known.b0.eq_1]
    simp (maxSteps := 2000000) only [go_sem, ↓reduceIte, Nat.reduceLT, Nat.reduceEqDiff, Nat.reduceLeDiff, Nat.reduceAdd, Nat.reduceSub, Nat.reduceMul, Int.reduceLT, Int.reduceLE, Int.reduceEq, Int.reduceNeg, run_unfold r20_known.c0.eq_1, run_unfold r20_known.c1.eq_1, r20_known.k0, List.drop_length, knownL]
  · rw [run_round, run_unfold r20_known.b0.eq_1]
    rw [List.drop_eq_getElem_cons hi, knownL]
    have hw := wrap_succ (show i < 9223372036854775807 by omega)
    by_cases h0 : past[i] = 0
    · simp (maxSteps := 2000000) only [go_sem, ↓reduceIte, Nat.reduceLT, Nat.reduceEqDiff, Nat.reduceLeDiff, Nat.reduceAdd, Nat.reduceSub, Nat.reduceMul, Int.reduceLT, Int.reduceLE, Int.reduceEq, Int.reduceNeg, hi, h0, hw]
      exact ih
    · rcases idxOf_cases (isN ⟨i, past[i]⟩) l with ⟨h1, h2⟩ | ⟨j, hj, h1, h2⟩
      · simp (maxSteps := 2000000) only [go_sem, ↓reduceIte, Nat.reduceLT, Nat.reduceEqDiff, Nat.reduceLeDiff, Nat.reduceAdd, Nat.reduceSub, Nat.reduceMul, Int.reduceLT, Int.reduceLE, Int.reduceEq, Int.reduceNeg, hi, h0, hl, h1, h2]
      · cases h3 : leq l[j].past past
        · simp (maxSteps := 2000000) only [go_sem, ↓reduceIte, Nat.reduceLT, Nat.reduceEqDiff, Nat.reduceLeDiff, Nat.reduceAdd, Nat.reduceSub, Nat.reduceMul, Int.reduceLT, Int.reduceLE, Int.reduceEq, Int.reduceNeg, hi, h0, hl, h1, h2, hj, h3, show ¬ ((j : Int) < 0) by omega]
        · simp (maxSteps := 2000000) only [go_sem, ↓reduceIte, Nat.reduceLT, Nat.reduceEqDiff, Nat.reduceLeDiff, Nat.reduceAdd, Nat.reduceSub, Nat.reduceMul, Int.reduceLT, Int.reduceLE, Int.reduceEq, Int.reduceNeg, hi, h0, hl, h1, h2, hj, h3, show ¬ ((j : Int) < 0) by omega, hw]
          exact ih

theorem r20_known_spec {f g : SlF} {l : List Com} {past : List Int} (hl : Fits l) (hp : Fits past) {lv : List Nat} {σ : Sto} {R : Post} : Cw T true i_r20_known [coms f l, ints g past] lv σ R ↔ R (.bool (knownL l past 0 past)) σ := by
  refine cw_intro T_r20_known (by simp only [go_sem]) (by simp) ?_; rw [run_unfold r20_known.main.eq_1]
  simp (maxSteps := 2000000) only [go_sem, ↓reduceIte, Nat.reduceLT, Nat.reduceEqDiff, Nat.reduceLeDiff, Nat.reduceAdd, Nat.reduceSub, Nat.reduceMul, Int.reduceLT, Int.reduceLE, Int.reduceEq, Int.reduceNeg]
  exact r20_known_loop hl hp 0 (by omega)
@[go_sem] theorem r20_known_call {f g : SlF} {l : List Com} {past : List Int} (hl : Fits l) (hp : Fits past) {Q : Post3} {k : List Item} {os : List AOper} {d : Option Nat} {e : Env} {σ : Sto} : CallK T Q k os d e σ true i_r20_known [coms f l, ints g past] ↔ Run T Q (.ops os :: k) (put e d (.bool (knownL l past 0 past))) σ := r20_known_spec hl hp


def okq (l : List Com) (c : List Int) (s : Nat) (q : Nat) : Bool := match l.find? (isN ⟨s, q⟩) with
  | some x => wf x && leq x.past c
  | none => false
/-- how far p holds without a gap, from q on, d steps at most -/
def lead (p : Nat → Bool) : Nat → Nat → Nat
  | q, 0 => q
  | q, d + 1 => if p (q + 1) = true then lead p (q + 1) d else q

theorem r20_fits_loop {f g : SlF} {l : List Com} {c : List Int} {s m : Nat} (hl : Fits l) (hs : s < c.length) (hm : c[s] = (m : Int)) (hb : m < 1000) : ∀ d q, q + d = m →
    Run T (Res [.tmp 6] (.int .i64 (lead (okq l c s) q d : Nat))) (.inLoop r20_fits.b0 :: r20_fits.k0) (mkE 48 [(0, coms f l), (1, ints g c), (2, .int .i64 s), (7, .int .i64 ((q + 1 : Nat) : Int))]) [] := by
  intro d
  induction d with
  | zero =>
    intro q hq
    rw [run_round, run_unfold r20_fits.b0.eq_1]
    simp (maxSteps := 2000000) only [go_sem, ↓reduceIte, Nat.reduceLT, Nat.reduceEqDiff, Nat.reduceLeDiff, Nat.reduceAdd, Nat.reduceSub, Nat.reduceMul, Int.reduceLT, Int.reduceLE, Int.reduceEq, Int.reduceNeg, run_unfold r20_fits.c0.eq_1, r20_fits.k0, hs, hm, show ¬ (((q + 1 : Nat) : Int) ≤ (m : Int)) by omega, lead]
    omega
  | succ d ih =>
    intro q hq
    rw [run_round, run_unfold r20_fits.b0.eq_1]
    have hle : (((q + 1 : Nat) : Int) ≤ (m : Int)) := by omega
    have hw := wrap_succ (show q + 1 < 9223372036854775807 by omega)
    have hw2 : IntKind.i64.wrap (((q + 1 : Nat) : Int) - 1) = (q : Int) := by rw [wrap_i64 (by omega) (by omega)]; omega
    rcases idxOf_cases (isN ⟨s, ((q + 1 : Nat) : Int)⟩) l with ⟨h1, h2⟩ | ⟨j, hj, h1, h2⟩
    · have hk : okq l c s (q + 1) = false := by unfold okq; rw [h2]
      simp (maxSteps := 2000000) only [go_sem, ↓reduceIte, Nat.reduceLT, Nat.reduceEqDiff, Nat.reduceLeDiff, Nat.reduceAdd, Nat.reduceSub, Nat.reduceMul, Int.reduceLT, Int.reduceLE, Int.reduceEq, Int.reduceNeg, hs, hm, hle, hl, h1, lead, hk, hw2]
    · cases h3 : wf l[j]
      · have hk : okq l c s (q + 1) = false := by unfold okq; rw [h2]; simp [h3]
        simp (maxSteps := 2000000) only [go_sem, ↓reduceIte, Nat.reduceLT, Nat.reduceEqDiff, Nat.reduceLeDiff, Nat.reduceAdd, Nat.reduceSub, Nat.reduceMul, Int.reduceLT, Int.reduceLE, Int.reduceEq, Int.reduceNeg, hs, hm, hle, hl, h1, lead, hk, hw2, hj, h3, show ¬ ((j : Int) < 0) by omega]
      · cases h4 : leq l[j].past c
        · have hk : okq l c s (q + 1) = false := by unfold okq; rw [h2]; simp [h3, h4]
          simp (maxSteps := 2000000) only [go_sem, ↓reduceIte, Nat.reduceLT, Nat.reduceEqDiff, Nat.reduceLeDiff, Nat.reduceAdd, Nat.reduceSub, Nat.reduceMul, Int.reduceLT, Int.reduceLE, Int.reduceEq, Int.reduceNeg, hs, hm, hle, hl, h1, lead, hk, hw2, hj, h3, h4, show ¬ ((j : Int) < 0) by omega]
        · have hk : okq l c s (q + 1) = true := by unfold okq; rw [h2]; simp [h3, h4]
          simp (maxSteps := 2000000) only [go_sem, ↓reduceIte, Nat.reduceLT, Nat.reduceEqDiff, Nat.reduceLeDiff, Nat.reduceAdd, Nat.reduceSub, Nat.reduceMul, Int.reduceLT, Int.reduceLE, Int.reduceEq, Int.reduceNeg, hs, hm, hle, hl, h1, lead, hk, hw, hj, h3, h4, show ¬ ((j : Int) < 0) by omega]
          exact ih (q + 1) (by omega)

/-- the number that the reference gives for a station -/
def fit (l : List Com) (c : List Int) (s : Nat) : Nat := lead (okq l c s) 0 (c.getD s 0).toNat

theorem valid_get {c : List Int} (h : valid c = true) {s : Nat} (hs : s < c.length) : ∃ m : Nat, c[s] = (m : Int) ∧ m < 1000 ∧ (c.getD s 0).toNat = m := by
  simp only [valid, Bool.and_eq_true, List.all_eq_true, decide_eq_true_eq] at h
  have := h.2 c[s] (List.getElem_mem hs)
  simp only [okSeq, Bool.and_eq_true, decide_eq_true_eq] at this
  refine ⟨c[s].toNat, by omega, by omega, ?_⟩
  rw [List.getD_eq_getElem?_getD, List.getElem?_eq_getElem hs]; rfl

theorem r20_fits_spec {f g : SlF} {l : List Com} {c : List Int} {s : Nat} (hl : Fits l) (hv : valid c = true) (hs : s < 6) {lv : List Nat} {σ : Sto} {R : Post} : Cw T true i_r20_fits [coms f l, ints g c, .int .i64 s] lv σ R ↔ R (.int .i64 (fit l c s : Nat)) σ := by
  refine cw_intro T_r20_fits (by simp only [go_sem]) (by simp) ?_; rw [run_unfold r20_fits.main.eq_1]
  simp (maxSteps := 2000000) only [go_sem, ↓reduceIte, Nat.reduceLT, Nat.reduceEqDiff, Nat.reduceLeDiff, Nat.reduceAdd, Nat.reduceSub, Nat.reduceMul, Int.reduceLT, Int.reduceLE, Int.reduceEq, Int.reduceNeg]
  have h6 : s < c.length := by rw [valid_len hv]; exact hs
  obtain ⟨m, h1, h2, h3⟩ := valid_get hv h6
  unfold fit
  rw [h3]
  exact r20_fits_loop hl h6 h1 h2 m 0 (by omega)
@[go_sem] theorem r20_fits_call {f g : SlF} {l : List Com} {c : List Int} {s : Nat} (hl : Fits l) (hv : valid c = true) (hs : s < 6) {Q : Post3} {k : List Item} {os : List AOper} {d : Option Nat} {e : Env} {σ : Sto} : CallK T Q k os d e σ true i_r20_fits [coms f l, ints g c, .int .i64 s] ↔ Run T Q (.ops os :: k) (put e d (.int .i64 (fit l c s : Nat))) σ := r20_fits_spec hl hv hs


end Go.Abs
/- Walks of chapter 20: the greatest closed cut of the reference; consistent lists. -/
set_option linter.unusedSimpArgs false
set_option linter.unusedVariables false
namespace Go.Abs
open Go

def full (l : List Com) (c : List Int) (s : Nat) : Bool := !decide (((fit l c s : Nat) : Int) < c.getD s 0)
def closed (l : List Com) (c : List Int) : Bool := valid c && (List.range 6).all (full l c)

theorem range6_drop {i : Nat} (h : i < 6) : (List.range 6).drop i = i :: (List.range 6).drop (i + 1) := by
  have : i < (List.range 6).length := by simpa using h
  rw [List.drop_eq_getElem_cons this]; simp

theorem r20_Closed_loop {f g : SlF} {l : List Com} {c : List Int} (hl : Fits l) (hv : valid c = true) : ∀ i, i ≤ 6 →
    Run T (Res [.tmp 4] (.bool (((List.range 6).drop i).all (full l c)))) (.inLoop r20_Closed.b0 :: r20_Closed.k0) (mkE 24 [(0, coms f l), (1, ints g c), (5, .int .i64 i)]) [] := by
  have h6 := valid_len hv
  refine up_ind ?_ fun i hi ih => ?_
  · rw [run_round, run_unfold r20_Closed.b0.eq_1]
    simp (maxSteps := 2000000) only [go_sem, ↓reduceIte, Nat.reduceLT, Nat.reduceEqDiff, Nat.reduceLeDiff, Nat.reduceAdd, Nat.reduceSub, Nat.reduceMul, Int.reduceLT, Int.reduceLE, Int.reduceEq, Int.reduceNeg, run_unfold r20_Closed.c0.eq_1, run_unfold r20_Closed.c1.eq_1, r20_Closed.k0, h6, show (List.range 6).drop 6 = [] from rfl]
  · rw [run_round, run_unfold r20_Closed.b0.eq_1]
    rw [range6_drop hi]
    have h1 : i < c.length := by omega
    have hg : c.getD i 0 = c[i] := by rw [List.getD_eq_getElem?_getD, List.getElem?_eq_getElem h1]; rfl
    have hw := wrap_succ (show i < 9223372036854775807 by omega)
    by_cases h : ((fit l c i : Nat) : Int) < c[i]
    · simp (maxSteps := 2000000) only [go_sem, ↓reduceIte, Nat.reduceLT, Nat.reduceEqDiff, Nat.reduceLeDiff, Nat.reduceAdd, Nat.reduceSub, Nat.reduceMul, Int.reduceLT, Int.reduceLE, Int.reduceEq, Int.reduceNeg, hl, hv, hi, h1, full, hg, h]
    · simp (maxSteps := 2000000) only [go_sem, ↓reduceIte, Nat.reduceLT, Nat.reduceEqDiff, Nat.reduceLeDiff, Nat.reduceAdd, Nat.reduceSub, Nat.reduceMul, Int.reduceLT, Int.reduceLE, Int.reduceEq, Int.reduceNeg, hl, hv, hi, h1, full, hg, h, hw]
      exact ih

theorem r20_Closed_spec {f g : SlF} {l : List Com} {c : List Int} (hl : Fits l) {lv : List Nat} {σ : Sto} {R : Post} : Cw T true i_r20_Closed [coms f l, ints g c] lv σ R ↔ R (.bool (closed l c)) σ := by
  refine cw_intro T_r20_Closed (by simp only [go_sem]) (by simp) ?_; rw [run_unfold r20_Closed.main.eq_1]
  unfold closed
  cases hv : valid c
  case false => simp (maxSteps := 2000000) only [go_sem, ↓reduceIte, Nat.reduceLT, Nat.reduceEqDiff, Nat.reduceLeDiff, Nat.reduceAdd, Nat.reduceSub, Nat.reduceMul, Int.reduceLT, Int.reduceLE, Int.reduceEq, Int.reduceNeg, hv]
  simp (maxSteps := 2000000) only [go_sem, ↓reduceIte, Nat.reduceLT, Nat.reduceEqDiff, Nat.reduceLeDiff, Nat.reduceAdd, Nat.reduceSub, Nat.reduceMul, Int.reduceLT, Int.reduceLE, Int.reduceEq, Int.reduceNeg, hv]
  exact r20_Closed_loop hl hv 0 (by omega)
@[go_sem] theorem r20_Closed_call {f g : SlF} {l : List Com} {c : List Int} (hl : Fits l) {Q : Post3} {k : List Item} {os : List AOper} {d : Option Nat} {e : Env} {σ : Sto} : CallK T Q k os d e σ true i_r20_Closed [coms f l, ints g c] ↔ Run T Q (.ops os :: k) (put e d (.bool (closed l c))) σ := r20_Closed_spec hl


theorem lead_le (p : Nat → Bool) : ∀ d q, lead p q d ≤ q + d
  | 0, q => by simp [lead]
  | d + 1, q => by
    unfold lead
    split
    · have := lead_le p d (q + 1); omega
    · omega
theorem lead_ge (p : Nat → Bool) : ∀ d q, q ≤ lead p q d
  | 0, q => by simp [lead]
  | d + 1, q => by
    unfold lead
    split
    · have := lead_ge p d (q + 1); omega
    · omega
theorem fit_le {l : List Com} {c : List Int} {s : Nat} : fit l c s ≤ (c.getD s 0).toNat := by
  have := lead_le (okq l c s) (c.getD s 0).toNat 0
  unfold fit; omega

theorem valid_set {c : List Int} (h : valid c = true) {s : Nat} {v : Int} (h0 : 0 ≤ v) (h1 : v ≤ 999) : valid (c.set s v) = true := by
  simp only [valid, Bool.and_eq_true, decide_eq_true_eq, List.length_set, List.all_eq_true] at h ⊢
  refine ⟨h.1, fun x hx => ?_⟩
  rcases List.mem_or_eq_of_mem_set hx with hx | rfl
  · exact h.2 x hx
  · simp only [okSeq, Bool.and_eq_true, decide_eq_true_eq]; exact ⟨h0, h1⟩

/-- one pass of the reference: stations i, i + 1, .. -/
def pass (l : List Com) (o : List Int) (i : Nat) : Nat → List Int
  | 0 => o
  | d + 1 => pass l (o.set i (fit l o i : Nat)) (i + 1) d

theorem fit_small {l : List Com} {o : List Int} (h : valid o = true) {i : Nat} (hi : i < 6) : ((fit l o i : Nat) : Int) ≤ 999 := by
  obtain ⟨m, _, h2, h3⟩ := valid_get h (show i < o.length by rw [valid_len h]; exact hi)
  have := fit_le (l := l) (c := o) (s := i)
  omega

theorem pass_valid {l : List Com} : ∀ d i (o : List Int), i + d = 6 → valid o = true → valid (pass l o i d) = true
  | 0, i, o, _, h => h
  | d + 1, i, o, hd, h => pass_valid d (i + 1) _ (by omega) (valid_set h (by omega) (fit_small h (by omega)))

theorem r20_GreatestIn_pass {f : SlF} {l : List Com} {o0 : List Int} (hl : Fits l) {v : AVal}
    (hk : ∀ o : List Int, valid o = true → o = pass l o0 0 6 → Run T (Res [.cell 4 true 2] v) (.inLoop r20_GreatestIn.b0 :: r20_GreatestIn.k0) (mkE 33 [(0, coms f l), (4, .ptr 0 2 0), (5, .ref 1 6 0 6 1)]) [.cells false [.nils, .int .i64 0], .cells false (o.map fun n => .int .i64 n)]) :
    ∀ i, i ≤ 6 → ∀ o : List Int, valid o = true → pass l o i (6 - i) = pass l o0 0 6 →
    Run T (Res [.cell 4 true 2] v) (.inLoop r20_GreatestIn.b1 :: r20_GreatestIn.k1) (mkE 33 [(0, coms f l), (4, .ptr 0 2 0), (5, .ref 1 6 0 6 1), (6, .int .i64 i)]) [.cells false [.nils, .int .i64 0], .cells false (o.map fun n => .int .i64 n)] := by
  refine up_ind ?_ fun i hi ih o hv hp => ?_
  · intro o hv hp
    rw [run_round, run_unfold r20_GreatestIn.b1.eq_1]
    simp (maxSteps := 2000000) only [go_sem, ↓reduceIte, Nat.reduceLT, Nat.reduceEqDiff, Nat.reduceLeDiff, Nat.reduceAdd, Nat.reduceSub, Nat.reduceMul, Int.reduceLT, Int.reduceLE, Int.reduceEq, Int.reduceNeg, run_unfold r20_GreatestIn.c0.eq_1, r20_GreatestIn.k0, r20_GreatestIn.k1, valid_len hv]
    exact hk o hv hp
  · rw [run_round, run_unfold r20_GreatestIn.b1.eq_1]
    have ho := valid_len hv
    have h3 : i < o.length := by omega
    simp (maxSteps := 2000000) only [go_sem, ↓reduceIte, Nat.reduceLT, Nat.reduceEqDiff, Nat.reduceLeDiff, Nat.reduceAdd, Nat.reduceSub, Nat.reduceMul, Int.reduceLT, Int.reduceLE, Int.reduceEq, Int.reduceNeg, ho, hi, show ((i : Int) < 6) by omega]
    rw [callK_live T_r20_fits (as := [coms f l, ints .lst o, .int .i64 i]) (v := .int .i64 (fit l o i : Nat)) (r20_fits_spec hl hv hi) (by
      rw [mapM_scons, snapDepth_eq, snapA_step (by simp (maxSteps := 2000000) only [go_sem, ↓reduceIte, Nat.reduceLT, Nat.reduceEqDiff, Nat.reduceLeDiff, Nat.reduceAdd, Nat.reduceSub, Nat.reduceMul, Int.reduceLT, Int.reduceLE, Int.reduceEq, Int.reduceNeg]), mapM_scons, snap_lit (c := o) (by rfl) ho, mapM_scons, snapA_step (by simp (maxSteps := 2000000) only [go_sem, ↓reduceIte, Nat.reduceLT, Nat.reduceEqDiff, Nat.reduceLeDiff, Nat.reduceAdd, Nat.reduceSub, Nat.reduceMul, Int.reduceLT, Int.reduceLE, Int.reduceEq, Int.reduceNeg]), mapM_snil]) (by simp (maxSteps := 2000000) only [go_sem, ↓reduceIte, Nat.reduceLT, Nat.reduceEqDiff, Nat.reduceLeDiff, Nat.reduceAdd, Nat.reduceSub, Nat.reduceMul, Int.reduceLT, Int.reduceLE, Int.reduceEq, Int.reduceNeg]) rfl]
    simp (maxSteps := 2000000) only [go_sem, ↓reduceIte, Nat.reduceLT, Nat.reduceEqDiff, Nat.reduceLeDiff, Nat.reduceAdd, Nat.reduceSub, Nat.reduceMul, Int.reduceLT, Int.reduceLE, Int.reduceEq, Int.reduceNeg, ho, hi, h3, show i + 1 ≤ 6 by omega, wrap_succ (show i < 9223372036854775807 by omega)]
    refine ih _ (valid_set hv (by omega) (fit_small hv hi)) ?_
    rw [← hp, show 6 - i = (6 - (i + 1)) + 1 by omega, pass]

def gre (l : List Com) : Nat → List Int → List Int
  | 0, o => o
  | n + 1, o => if closed l o = true then o else gre l n (pass l o 0 6)

/-- numbers of commits in all -/
def total (o : List Int) : Nat := (o.map Int.toNat).sum

theorem total_set {o : List Int} {i : Nat} {v : Nat} (hi : i < o.length) : total (o.set i v) + (o.getD i 0).toNat = total o + v := by
  induction o generalizing i with
  | nil => simp at hi
  | cons x o ih =>
    cases i with
    | zero => simp [total]; omega
    | succ i =>
      have := ih (i := i) (by simpa using hi)
      simp [total] at this ⊢
      omega

theorem pass_total {l : List Com} : ∀ d i (o : List Int), i + d = 6 → valid o = true → total (pass l o i d) ≤ total o ∧ (total (pass l o i d) = total o → ∀ s, i ≤ s → s < 6 → full l o s = true)
  | 0, i, o, hd, h => ⟨Nat.le_refl _, fun _ s h1 h2 => by omega⟩
  | d + 1, i, o, hd, h => by
    have hi : i < o.length := by rw [valid_len h]; omega
    have hv := valid_set h (v := (fit l o i : Nat)) (s := i) (by omega) (fit_small h (by omega))
    obtain ⟨h1, h2⟩ := pass_total (l := l) d (i + 1) _ (by omega) hv
    have h3 := total_set (v := fit l o i) hi
    have h4 := fit_le (l := l) (c := o) (s := i)
    refine ⟨by unfold pass; omega, fun he s hs hs6 => ?_⟩
    unfold pass at he
    have h5 : fit l o i = (o.getD i 0).toNat := by omega
    have h6 : o.set i (fit l o i : Nat) = o := by
      obtain ⟨m, g1, g2, g3⟩ := valid_get h hi
      rw [h5, g3, ← g1]; exact List.set_getElem_self hi
    rw [h6] at h2 he
    by_cases hsi : s = i
    · subst hsi
      obtain ⟨m, g1, g2, g3⟩ := valid_get h hi
      have g4 : o.getD s 0 = o[s] := by rw [List.getD_eq_getElem?_getD, List.getElem?_eq_getElem hi]; rfl
      unfold full
      rw [h5, g3, g4, g1]; simp
    · exact h2 he s (by omega) hs6

theorem pass_less {l : List Com} {o : List Int} (hv : valid o = true) (hc : closed l o = false) : total (pass l o 0 6) < total o := by
  obtain ⟨h1, h2⟩ := pass_total (l := l) 6 0 o rfl hv
  rcases Nat.lt_or_ge (total (pass l o 0 6)) (total o) with h | h
  · exact h
  · exfalso
    have := h2 (by omega)
    have : closed l o = true := by
      unfold closed
      rw [hv, Bool.true_and, List.all_eq_true]
      intro s hs
      exact this s (by omega) (by simpa using hs)
    rw [hc] at this; simp at this

theorem r20_GreatestIn_loop {f : SlF} {l : List Com} (hl : Fits l) : ∀ n (o : List Int), valid o = true → total o < n →
    Run T (Res [.cell 4 true 2] (.agg [ints .lst (gre l n o), .int .i64 0])) (.inLoop r20_GreatestIn.b0 :: r20_GreatestIn.k0) (mkE 33 [(0, coms f l), (4, .ptr 0 2 0), (5, .ref 1 6 0 6 1)]) [.cells false [.nils, .int .i64 0], .cells false (o.map fun n => .int .i64 n)] := by
  intro n
  induction n with
  | zero => intro o _ h; omega
  | succ n ih =>
    intro o hv hn
    have ho := valid_len hv
    rw [run_round, run_unfold r20_GreatestIn.b0.eq_1]
    simp (maxSteps := 2000000) only [go_sem, ↓reduceIte, Nat.reduceLT, Nat.reduceEqDiff, Nat.reduceLeDiff, Nat.reduceAdd, Nat.reduceSub, Nat.reduceMul, Int.reduceLT, Int.reduceLE, Int.reduceEq, Int.reduceNeg, ho]
    rw [callK_live T_r20_Closed (as := [coms f l, ints .lst o]) (v := .bool (closed l o)) (r20_Closed_spec hl) (by
      rw [mapM_scons, snapDepth_eq, snapA_step (by simp (maxSteps := 2000000) only [go_sem, ↓reduceIte, Nat.reduceLT, Nat.reduceEqDiff, Nat.reduceLeDiff, Nat.reduceAdd, Nat.reduceSub, Nat.reduceMul, Int.reduceLT, Int.reduceLE, Int.reduceEq, Int.reduceNeg]), mapM_scons, snap_lit (c := o) (by rfl) ho, mapM_snil]) (by simp (maxSteps := 2000000) only [go_sem, ↓reduceIte, Nat.reduceLT, Nat.reduceEqDiff, Nat.reduceLeDiff, Nat.reduceAdd, Nat.reduceSub, Nat.reduceMul, Int.reduceLT, Int.reduceLE, Int.reduceEq, Int.reduceNeg]) rfl]
    cases hc : closed l o
    · simp (maxSteps := 2000000) only [go_sem, ↓reduceIte, Nat.reduceLT, Nat.reduceEqDiff, Nat.reduceLeDiff, Nat.reduceAdd, Nat.reduceSub, Nat.reduceMul, Int.reduceLT, Int.reduceLE, Int.reduceEq, Int.reduceNeg, hc, gre]
      refine r20_GreatestIn_pass hl (fun o' hv' he => ?_) 0 (by omega) o hv rfl
      rw [← he]
      exact ih o' hv' (by rw [he]; have := pass_less hv hc; omega)
    · simp (maxSteps := 2000000) only [go_sem, ↓reduceIte, Nat.reduceLT, Nat.reduceEqDiff, Nat.reduceLeDiff, Nat.reduceAdd, Nat.reduceSub, Nat.reduceMul, Int.reduceLT, Int.reduceLE, Int.reduceEq, Int.reduceNeg, hc, gre, run_unfold r20_GreatestIn.c0.eq_1, r20_GreatestIn.k0, r20_GreatestIn.k1, ho]
      rw [show (6 : Nat) = o.length from ho.symm, snap_ints (by rfl)]
      simp (maxSteps := 2000000) only [go_sem, ↓reduceIte, Nat.reduceLT, Nat.reduceEqDiff, Nat.reduceLeDiff, Nat.reduceAdd, Nat.reduceSub, Nat.reduceMul, Int.reduceLT, Int.reduceLE, Int.reduceEq, Int.reduceNeg]

theorem total_le {o : List Int} (h : valid o = true) : total o < 6000 := by
  have h6 := valid_len h
  have hs : ∀ l : List Int, (∀ x ∈ l, x.toNat ≤ 999) → total l ≤ l.length * 999 := by
    intro l
    induction l with
    | nil => intro _; simp [total]
    | cons x l ih =>
      intro hx
      have h1 := hx x (by simp)
      have h2 := ih fun y hy => hx y (by simp [hy])
      simp [total] at h2 ⊢
      omega
  have := hs o fun x hx => by
    simp only [valid, Bool.and_eq_true, List.all_eq_true] at h
    have := h.2 x hx
    simp only [okSeq, Bool.and_eq_true, decide_eq_true_eq] at this
    omega
  omega

def greatest (l : List Com) (c : List Int) : Cut := if valid c = true then ⟨.lst, gre l 6000 c, 0⟩ else ⟨.nil, [], 200⟩

theorem r20_GreatestIn_spec {f g : SlF} {l : List Com} {c : List Int} (hl : Fits l) {lv : List Nat} {σ : Sto} {R : Post} : Cw T true i_r20_GreatestIn [coms f l, ints g c] lv σ R ↔ R (encU (greatest l c)) σ := by
  refine cw_intro T_r20_GreatestIn (by simp only [go_sem]) (by simp) ?_; rw [run_unfold r20_GreatestIn.main.eq_1]
  unfold greatest
  cases hv : valid c
  case false => simp (maxSteps := 2000000) only [go_sem, ↓reduceIte, Nat.reduceLT, Nat.reduceEqDiff, Nat.reduceLeDiff, Nat.reduceAdd, Nat.reduceSub, Nat.reduceMul, Int.reduceLT, Int.reduceLE, Int.reduceEq, Int.reduceNeg, hv, encU]
  have h6 := valid_len hv
  simp (maxSteps := 2000000) only [go_sem, ↓reduceIte, Nat.reduceLT, Nat.reduceEqDiff, Nat.reduceLeDiff, Nat.reduceAdd, Nat.reduceSub, Nat.reduceMul, Int.reduceLT, Int.reduceLE, Int.reduceEq, Int.reduceNeg, hv]
  rw [appendV_fresh (by rfl) rowOf_ints (by simp) (by decide) (by simp [AVal.one]) (by unfold maxBytes; omega)]
  simp (maxSteps := 2000000) only [go_sem, ↓reduceIte, Nat.reduceLT, Nat.reduceEqDiff, Nat.reduceLeDiff, Nat.reduceAdd, Nat.reduceSub, Nat.reduceMul, Int.reduceLT, Int.reduceLE, Int.reduceEq, Int.reduceNeg, h6]
  exact r20_GreatestIn_loop hl 6000 c hv (total_le hv)
@[go_sem] theorem r20_GreatestIn_call {f g : SlF} {l : List Com} {c : List Int} (hl : Fits l) {Q : Post3} {k : List Item} {os : List AOper} {d : Option Nat} {e : Env} {σ : Sto} : CallK T Q k os d e σ true i_r20_GreatestIn [coms f l, ints g c] ↔ Run T Q (.ops os :: k) (put e d (encU (greatest l c))) σ := r20_GreatestIn_spec hl


end Go.Abs
/- Walks of chapter 20: what the reference makes of bytes. -/
set_option linter.unusedSimpArgs false
set_option linter.unusedVariables false
namespace Go.Abs
open Go

def cutOfL (l : List Com) (b : List Nat) : List Int := gre l 6000 (if b.length = 0 then [999, 999, 999, 999, 999, 999] else limit b)

theorem valid_all : valid [999, 999, 999, 999, 999, 999] = true := by decide
theorem limF_small : ∀ (b : List Nat) (o : List Int), (∀ x ∈ o, okSeq x = true) → ∀ x ∈ limF b o, okSeq x = true
  | _, [], _, x, h => by simp [limF] at h
  | [], y :: o, ho, x, h => ho x h
  | n :: b, y :: o, ho, x, h => by
    simp only [limF, List.mem_cons] at h
    rcases h with rfl | h
    · have : n % 6 < 6 := Nat.mod_lt _ (by decide)
      simp only [okSeq, Bool.and_eq_true, decide_eq_true_eq]; omega
    · exact limF_small b o (fun z hz => ho z (by simp [hz])) x h
theorem valid_limit (b : List Nat) : valid (limit b) = true := by
  simp only [valid, Bool.and_eq_true, decide_eq_true_eq, List.all_eq_true]
  exact ⟨by unfold limit; rw [limF_len]; rfl, limF_small b zeros (by decide)⟩

theorem r20_CutOf_spec {f g : SlF} {l : List Com} {b : List Nat} (hl : Fits l) (hb : Fits b) {lv : List Nat} {σ : Sto} {R : Post} : Cw T true i_r20_CutOf [coms f l, bytesV g b] lv σ R ↔ R (ints .lst (cutOfL l b)) σ := by
  refine cw_intro T_r20_CutOf (by simp only [go_sem]) (by simp) ?_; rw [run_unfold r20_CutOf.main.eq_1]
  unfold cutOfL
  by_cases h : b.length = 0
  · simp (maxSteps := 2000000) only [go_sem, ↓reduceIte, Nat.reduceLT, Nat.reduceEqDiff, Nat.reduceLeDiff, Nat.reduceAdd, Nat.reduceSub, Nat.reduceMul, Int.reduceLT, Int.reduceLE, Int.reduceEq, Int.reduceNeg, h, hl, greatest, valid_all]
  · have h' : ¬ ((b.length : Int) = 0) := by omega
    simp (maxSteps := 2000000) only [go_sem, ↓reduceIte, Nat.reduceLT, Nat.reduceEqDiff, Nat.reduceLeDiff, Nat.reduceAdd, Nat.reduceSub, Nat.reduceMul, Int.reduceLT, Int.reduceLE, Int.reduceEq, Int.reduceNeg, h, h', hl, hb, greatest, valid_limit]
@[go_sem] theorem r20_CutOf_call {f g : SlF} {l : List Com} {b : List Nat} (hl : Fits l) (hb : Fits b) {Q : Post3} {k : List Item} {os : List AOper} {d : Option Nat} {e : Env} {σ : Sto} : CallK T Q k os d e σ true i_r20_CutOf [coms f l, bytesV g b] ↔ Run T Q (.ops os :: k) (put e d (ints .lst (cutOfL l b))) σ := r20_CutOf_spec hl hb


/-! ### Headers -/
def mkCom (st seq : Int) (past : List Int) : Com := ⟨st, seq, .lst, past, 0, .nils, rfl, rfl⟩
structure HS where
  out : List Com
  K : List (List Int)
def hjoin (K : List (List Int)) (s t u : Nat) : List (List Int) := if 0 < u then K.set s (maxL (K.getD s []) (K.getD t [])) else K
def hcom (K : List (List Int)) (s : Nat) : Com := mkCom s ((K.getD s []).getD s 0 + 1) (K.getD s [])
def hnext (x : HS) (s t u : Nat) : HS := ⟨x.out ++ [hcom (hjoin x.K s t u) s], (hjoin x.K s t u).set s (own (hcom (hjoin x.K s t u) s))⟩
def hstep (x : HS) (b : Nat) : HS := hnext x (b % 3) (b / 3 % 3) (b / 9 % 3)
def headers (b : List Nat) : List Com := ((b.take 12).foldl hstep ⟨[], [zeros, zeros, zeros]⟩).out

/-- what holds of the stations' knowledge after n commits -/
structure HInv (n : Nat) (K : List (List Int)) : Prop where
  len : K.length = 3
  row : ∀ a ∈ K, a.length = 6 ∧ ∀ x ∈ a, 0 ≤ x ∧ x ≤ (n : Int)

theorem HInv.get {n : Nat} {K : List (List Int)} (h : HInv n K) {s : Nat} (hs : s < 3) : ∃ hk : s < K.length, K.getD s [] = K[s] ∧ K[s].length = 6 ∧ ∀ x ∈ K[s], 0 ≤ x ∧ x ≤ (n : Int) := by
  have hk : s < K.length := by rw [h.len]; exact hs
  exact ⟨hk, by rw [List.getD_eq_getElem?_getD, List.getElem?_eq_getElem hk]; rfl, h.row _ (List.getElem_mem hk)⟩
theorem valid_row {n : Nat} {a : List Int} (h : a.length = 6 ∧ ∀ x ∈ a, 0 ≤ x ∧ x ≤ (n : Int)) (hn : n ≤ 999) : valid a = true := by
  simp only [valid, Bool.and_eq_true, decide_eq_true_eq, List.all_eq_true]
  refine ⟨h.1, fun x hx => ?_⟩
  have := h.2 x hx
  simp only [okSeq, Bool.and_eq_true, decide_eq_true_eq]; omega
theorem maxL_row {n : Nat} {a b : List Int} (ha : a.length = 6 ∧ ∀ x ∈ a, 0 ≤ x ∧ x ≤ (n : Int)) (hb : b.length = 6 ∧ ∀ x ∈ b, 0 ≤ x ∧ x ≤ (n : Int)) : (maxL a b).length = 6 ∧ ∀ x ∈ maxL a b, 0 ≤ x ∧ x ≤ (n : Int) := by
  refine ⟨by simp [maxL, ha.1, hb.1], fun x hx => ?_⟩
  obtain ⟨i, hi, rfl⟩ := List.getElem_of_mem hx
  simp only [maxL, List.length_zipWith] at hi
  simp only [maxL, List.getElem_zipWith]
  have h1 := ha.2 a[i] (List.getElem_mem (by omega))
  have h2 := hb.2 b[i] (List.getElem_mem (by omega))
  split <;> omega
theorem HInv.join {n : Nat} {K : List (List Int)} (h : HInv n K) {s t u : Nat} (hs : s < 3) (ht : t < 3) : HInv n (hjoin K s t u) := by
  unfold hjoin
  split
  · obtain ⟨h1, e1, r1⟩ := h.get hs
    obtain ⟨h2, e2, r2⟩ := h.get ht
    refine ⟨by simp [h.len], fun a ha => ?_⟩
    rcases List.mem_or_eq_of_mem_set ha with ha | rfl
    · exact h.row a ha
    · rw [e1, e2]; exact maxL_row r1 r2
  · exact h
theorem HInv.step {n : Nat} {K : List (List Int)} (h : HInv n K) {s : Nat} (hs : s < 3) : HInv (n + 1) (K.set s (own (hcom K s))) := by
  obtain ⟨h1, e1, r1⟩ := h.get hs
  refine ⟨by simp [h.len], fun a ha => ?_⟩
  rcases List.mem_or_eq_of_mem_set ha with ha | rfl
  · have := h.row a ha
    exact ⟨this.1, fun x hx => by have := this.2 x hx; omega⟩
  · unfold own hcom mkCom
    simp only [e1]
    refine ⟨by simp [r1.1], fun x hx => ?_⟩
    rcases List.mem_or_eq_of_mem_set hx with hx | rfl
    · have := r1.2 x hx; omega
    · have hs6 : s < K[s].length := by omega
      have : K[s].getD s 0 = K[s][s] := by rw [List.getD_eq_getElem?_getD, List.getElem?_eq_getElem hs6]; rfl
      rw [this]
      have := r1.2 _ (List.getElem_mem hs6)
      omega

abbrev cellsC (c : Com) : List AVal := [.int .i64 c.st, .int .i64 c.seq, ints c.pf c.past, .int .i64 c.ver, c.ops]
theorem cellsC_len (c : Com) : (cellsC c).length = 5 := rfl
theorem cellsC_pure (c : Com) {p : Nat → Bool} : AVal.namesL p (cellsC c) = true := by simp (maxSteps := 2000000) only [go_sem, ↓reduceIte, Nat.reduceLT, Nat.reduceEqDiff, Nat.reduceLeDiff, Nat.reduceAdd, Nat.reduceSub, Nat.reduceMul, Int.reduceLT, Int.reduceLE, Int.reduceEq, Int.reduceNeg]
@[go_sem] theorem names_coms {p : Nat → Bool} {l : List Com} : AVal.namesL p (l.flatMap cellsC) = true := v_names_flat (fun c => cellsC_pure c) l
@[go_sem] theorem names_lists {p : Nat → Bool} {l : List (List Int)} : AVal.namesL p (l.map fun c => sv 1 .lst (c.map fun n => AVal.int .i64 n)) = true := v_names_map (fun _ => sv_pure) l

theorem snap_coms {n o : Nat} {l : List Com} {σ : Sto} (hσ : σ[o]? = some (.cells false (l.flatMap cellsC))) : snapA σ (n + 2) (.ref o (l.length * 5) 0 l.length 5) = some (coms .lst l) := by
  rw [snap_structs (k := 5) (by decide) (by decide) cellsC_len (fun c => cellsC_pure c) hσ]; exact congrArg some (sv_lst _ _).symm
abbrev lists (K : List (List Int)) : List AVal := K.map fun c => sv 1 .lst (c.map fun n => AVal.int .i64 n)

/-- the second half of a round: the commit, and what its station knows then -/
theorem r20_Headers_tail {f : SlF} {b : List Nat} {v : AVal} {i s : Nat} {out : List Com} {K : List (List Int)} (ho : out.length = i) (hi : i < 12) (hK : HInv i K) (hs : s < 3)
    (h : Run T (Res [.tmp 2] v) (.inLoop r20_Headers.b0 :: r20_Headers.k0) (mkE 85 [(0, bytesV f b), (3, .ref 0 ((i + 1) * 5) 0 (i + 1) 5), (4, .ref 1 3 0 3 1), (5, .int .i64 ((i + 1 : Nat) : Int))])
      [.cells false ((out ++ [hcom K s]).flatMap cellsC), .cells false (lists (K.set s (own (hcom K s))))]) :
    Run T (Res [.tmp 2] v) (.code r20_Headers.c3 :: .inBlock 1 :: .inTrunc 2 :: .code r20_Headers.c2 :: .inLoop r20_Headers.b0 :: r20_Headers.k0) (mkE 85 [(0, bytesV f b), (3, .ref 0 (i * 5) 0 i 5), (4, .ref 1 3 0 3 1), (5, .int .i64 i), (6, .int .i64 s)])
      [.cells false (out.flatMap cellsC), .cells false (lists K)] := by
  rw [run_unfold r20_Headers.c3.eq_1]
  obtain ⟨k1, g1, r1⟩ := hK.get hs
  have hL := hK.len
  have hs6 : s < K[s].length := by omega
  have hx := r1.2 _ (List.getElem_mem hs6)
  have hw : IntKind.i64.wrap (K[s][s] + 1) = K[s][s] + 1 := wrap_i64 (by omega) (by omega)
  have hg2 : K[s].getD s 0 = K[s][s] := by rw [List.getD_eq_getElem?_getD, List.getElem?_eq_getElem hs6]; rfl
  have hc : hcom K s = mkCom s (K[s][s] + 1) K[s] := by unfold hcom; rw [g1, hg2]
  rw [hc] at h
  simp (maxSteps := 2000000) only [go_sem, ↓reduceIte, Nat.reduceLT, Nat.reduceEqDiff, Nat.reduceLeDiff, Nat.reduceAdd, Nat.reduceSub, Nat.reduceMul, Int.reduceLT, Int.reduceLE, Int.reduceEq, Int.reduceNeg, hs, hL, k1, hs6, hw]
  have hlen : (out.flatMap cellsC).length = i * 5 := by rw [flatMap_len cellsC_len, ho]
  rw [appendV_grow (m := 1) (new := cellsC (mkCom s (K[s][s] + 1) K[s])) (by rfl) (by rfl) hlen rfl rfl (by decide) (by simp (maxSteps := 2000000) only [go_sem, ↓reduceIte, Nat.reduceLT, Nat.reduceEqDiff, Nat.reduceLeDiff, Nat.reduceAdd, Nat.reduceSub, Nat.reduceMul, Int.reduceLT, Int.reduceLE, Int.reduceEq, Int.reduceNeg, mkCom]) (by unfold maxBytes; omega)]
  have hlen2 : (out.flatMap cellsC ++ cellsC (mkCom s (K[s][s] + 1) K[s])).length = i * 5 + 1 * 5 := by rw [List.length_append, hlen]; rfl
  have hdrop : (out.flatMap cellsC ++ cellsC (mkCom s (K[s][s] + 1) K[s])).drop (i * 5) = cellsC (mkCom s (K[s][s] + 1) K[s]) := by rw [← hlen]; exact List.drop_left
  have hw3 : IntKind.i64.wrap (((i + 1 : Nat) : Int) - 1) = (i : Int) := by rw [wrap_i64 (by omega) (by omega)]; omega
  generalize hX : out.flatMap cellsC ++ cellsC (mkCom s (K[s][s] + 1) K[s]) = X at hlen2 hdrop
  have hlX : 5 ≤ (X.drop (i * 5)).length := by rw [hdrop]; exact Nat.le_refl 5
  simp (maxSteps := 2000000) only [go_sem, ↓reduceIte, Nat.reduceLT, Nat.reduceEqDiff, Nat.reduceLeDiff, Nat.reduceAdd, Nat.reduceSub, Nat.reduceMul, Int.reduceLT, Int.reduceLE, Int.reduceEq, Int.reduceNeg, hlen2, hw3, hdrop, hlX, Nat.lt_succ_self, hs, hL, k1, hs6]
  rw [r20_Own_call (c := mkCom s (K[s][s] + 1) K[s]) (by show (0 : Int) ≤ (s : Int); omega) (by show ((s : Int)).toNat < K[s].length; rw [Int.toNat_natCast]; exact hs6) (by show K[s].length * 8 ≤ maxBytes; unfold maxBytes; omega)]
  have hX2 : X = (out ++ [mkCom s (K[s][s] + 1) K[s]]).flatMap cellsC := by rw [← hX, List.flatMap_append]; rfl
  have hXn : AVal.namesL (fun o => decide (o < 2)) X = true := by rw [hX2]; exact names_coms
  rw [show (i + 1) * 5 = i * 5 + 5 by omega, ← hX2] at h
  simp (maxSteps := 2000000) only [go_sem, ↓reduceIte, Nat.reduceLT, Nat.reduceEqDiff, Nat.reduceLeDiff, Nat.reduceAdd, Nat.reduceSub, Nat.reduceMul, Int.reduceLT, Int.reduceLE, Int.reduceEq, Int.reduceNeg, run_unfold r20_Headers.c2.eq_1, hs, hL, k1, show s ≤ 2 by omega, over_lists k1, hXn, wrap_succ (show i < 9223372036854775807 by omega)]
  exact h

theorem r20_Headers_loop {f : SlF} {b : List Nat} (hb : Fits b) (hb8 : ∀ n ∈ b, n < 256) : ∀ i, i ≤ (b.take 12).length → ∀ x : HS, x.out.length = i → HInv i x.K →
    Run T (Res [.tmp 2] (coms .lst (((b.take 12).drop i).foldl hstep x).out)) (.inLoop r20_Headers.b0 :: r20_Headers.k0) (mkE 85 [(0, bytesV f b), (3, .ref 0 (i * 5) 0 i 5), (4, .ref 1 3 0 3 1), (5, .int .i64 i)])
      [.cells false (x.out.flatMap cellsC), .cells false (lists x.K)] := by
  refine up_ind ?_ fun i hi ih x hx hK => ?_
  · intro x hx hK
    rw [run_round, run_unfold r20_Headers.b0.eq_1]
    rw [List.drop_length, List.foldl_nil]
    have hlen : (b.take 12).length = min 12 b.length := List.length_take
    by_cases h1 : (b.take 12).length < b.length
    · have h2 : ¬ (((b.take 12).length : Int) < 12) := by omega
      simp (maxSteps := 2000000) only [go_sem, ↓reduceIte, Nat.reduceLT, Nat.reduceEqDiff, Nat.reduceLeDiff, Nat.reduceAdd, Nat.reduceSub, Nat.reduceMul, Int.reduceLT, Int.reduceLE, Int.reduceEq, Int.reduceNeg, h1, h2, run_unfold r20_Headers.c0.eq_1, run_unfold r20_Headers.c1.eq_1, run_unfold r20_Headers.c2.eq_1, run_unfold r20_Headers.c3.eq_1, r20_Headers.k0]
      rw [← hx, snap_coms (by rfl)]
    · simp (maxSteps := 2000000) only [go_sem, ↓reduceIte, Nat.reduceLT, Nat.reduceEqDiff, Nat.reduceLeDiff, Nat.reduceAdd, Nat.reduceSub, Nat.reduceMul, Int.reduceLT, Int.reduceLE, Int.reduceEq, Int.reduceNeg, h1, run_unfold r20_Headers.c0.eq_1, run_unfold r20_Headers.c1.eq_1, run_unfold r20_Headers.c2.eq_1, run_unfold r20_Headers.c3.eq_1, r20_Headers.k0]
      rw [← hx, snap_coms (by rfl)]
  · rw [run_round, run_unfold r20_Headers.b0.eq_1]
    have hi' : i < b.length ∧ i < 12 := by simp at hi; omega
    have hn := hb8 b[i] (List.getElem_mem hi'.1)
    rw [List.drop_eq_getElem_cons hi, List.foldl_cons, List.getElem_take, hstep]
    have e1 : Int.tmod (b[i] : Int) 3 = ((b[i] % 3 : Nat) : Int) := rfl
    have e2 : IntKind.u8.wrap (Int.tdiv (b[i] : Int) 3) = ((b[i] / 3 : Nat) : Int) := wrap_quo (k := 3) hn
    have e3 : Int.tmod ((b[i] / 3 : Nat) : Int) 3 = ((b[i] / 3 % 3 : Nat) : Int) := rfl
    have e4 : IntKind.u8.wrap (Int.tdiv (b[i] : Int) 9) = ((b[i] / 9 : Nat) : Int) := wrap_quo (k := 9) hn
    have e5 : Int.tmod ((b[i] / 9 : Nat) : Int) 3 = ((b[i] / 9 % 3 : Nat) : Int) := rfl
    have hs : b[i] % 3 < 3 := Nat.mod_lt _ (by decide)
    have ht : b[i] / 3 % 3 < 3 := Nat.mod_lt _ (by decide)
    generalize b[i] % 3 = s at e1 hs ⊢
    generalize b[i] / 3 % 3 = t at e3 ht ⊢
    generalize b[i] / 9 % 3 = u at e5 ⊢
    have w1 := wrap_nat (show s < 9223372036854775808 by omega)
    have w2 := wrap_nat (show t < 9223372036854775808 by omega)
    have hL : x.K.length = 3 := hK.len
    obtain ⟨k1, g1, r1⟩ := hK.get hs
    obtain ⟨k2, g2, r2⟩ := hK.get ht
    have hlt : ((i : Int) < 12) := by omega
    have hJ := hK.join (u := u) hs ht
    have fin : Run T (Res [.tmp 2] (coms .lst (((b.take 12).drop (i + 1)).foldl hstep (hnext x s t u)).out)) (.code r20_Headers.c3 :: .inBlock 1 :: .inTrunc 2 :: .code r20_Headers.c2 :: .inLoop r20_Headers.b0 :: r20_Headers.k0) (mkE 85 [(0, bytesV f b), (3, .ref 0 (i * 5) 0 i 5), (4, .ref 1 3 0 3 1), (5, .int .i64 i), (6, .int .i64 s)])
      [.cells false (x.out.flatMap cellsC), .cells false (lists (hjoin x.K s t u))] :=
      r20_Headers_tail hx hi'.2 hJ hs (ih (hnext x s t u) (by simp [hnext, hx]) (hJ.step hs))
    by_cases hu : 0 < u
    · have hu' : (0 : Int) < (u : Int) := by omega
      have va := valid_row r1 (by omega)
      have vb := valid_row r2 (by omega)
      have e6 : hjoin x.K s t u = x.K.set s (maxL x.K[s] x.K[t]) := by unfold hjoin; rw [if_pos hu, g1, g2]
      rw [e6] at fin
      simp (maxSteps := 2000000) only [go_sem, ↓reduceIte, Nat.reduceLT, Nat.reduceEqDiff, Nat.reduceLeDiff, Nat.reduceAdd, Nat.reduceSub, Nat.reduceMul, Int.reduceLT, Int.reduceLE, Int.reduceEq, Int.reduceNeg, hi'.1, hlt, e1, e2, e3, e4, e5, w1, w2, hL, hs, ht, k1, k2, hu', cutOf, va, vb, over_lists k1, show s ≤ 2 by omega, List.length_set]
      exact fin
    · have hu' : ¬ (0 : Int) < (u : Int) := by omega
      have e6 : hjoin x.K s t u = x.K := by unfold hjoin; rw [if_neg hu]
      rw [e6] at fin
      simp (maxSteps := 2000000) only [go_sem, ↓reduceIte, Nat.reduceLT, Nat.reduceEqDiff, Nat.reduceLeDiff, Nat.reduceAdd, Nat.reduceSub, Nat.reduceMul, Int.reduceLT, Int.reduceLE, Int.reduceEq, Int.reduceNeg, hi'.1, hlt, e1, e2, e3, e4, e5, w1, w2, hL, hs, ht, k1, k2, hu']
      exact fin


theorem r20_Headers_spec {f : SlF} {b : List Nat} (hb : Fits b) (hb8 : ∀ n ∈ b, n < 256) {lv : List Nat} {σ : Sto} {R : Post} : Cw T true i_r20_Headers [bytesV f b] lv σ R ↔ R (coms .lst (headers b)) σ := by
  refine cw_intro T_r20_Headers (by simp only [go_sem]) (by simp) ?_; rw [run_unfold r20_Headers.main.eq_1]
  simp (maxSteps := 2000000) only [go_sem, ↓reduceIte, Nat.reduceLT, Nat.reduceEqDiff, Nat.reduceLeDiff, Nat.reduceAdd, Nat.reduceSub, Nat.reduceMul, Int.reduceLT, Int.reduceLE, Int.reduceEq, Int.reduceNeg]
  have := r20_Headers_loop (f := f) hb hb8 0 (by omega) ⟨[], [zeros, zeros, zeros]⟩ rfl ⟨rfl, by decide⟩
  exact this
@[go_sem] theorem r20_Headers_call {f : SlF} {b : List Nat} (hb : Fits b) (hb8 : ∀ n ∈ b, n < 256) {Q : Post3} {k : List Item} {os : List AOper} {d : Option Nat} {e : Env} {σ : Sto} : CallK T Q k os d e σ true i_r20_Headers [bytesV f b] ↔ Run T Q (.ops os :: k) (put e d (coms .lst (headers b))) σ := r20_Headers_spec hb hb8


theorem headers_fits (b : List Nat) : (headers b).length ≤ 12 := by
  have : ∀ (l : List Nat) (x : HS), (l.foldl hstep x).out.length = x.out.length + l.length := by
    intro l
    induction l with
    | nil => intro x; rfl
    | cons a l ih => intro x; rw [List.foldl_cons, ih]; simp [hstep, hnext]; omega
  unfold headers
  rw [this]
  simp
  omega

end Go.Abs
/- Walks of chapter 20: the program's map of names, and its closed cuts. -/
set_option linter.unusedSimpArgs false
set_option linter.unusedVariables false
namespace Go.Abs
open Go

abbrev shN : Shape := .row [(0, 1, false, .int .i64), (1, 1, false, .int .i64)]
theorem eqA_name {a b : Nam} : eqA shN (encN a) (encN b) = some (decide (a = b)) := by
  have : decide (a = b) = (decide (a.st = b.st) && decide (a.seq = b.seq)) := by
    cases a; cases b; simp
  rw [this]
  simp only [eqA, eqParts]
  by_cases h : a.st = b.st
  · by_cases h2 : a.seq = b.seq
    · simp [h, h2]
    · simp [h, h2]
  · simp [h]

/-- names with numbers, as a map holds them -/
abbrev NMap := List (Nam × Nat)
def NMap.get (m : NMap) (n : Nam) : Option Nat := (m.find? fun p => decide (n = p.1)).map (·.2)
abbrev keysA (m : NMap) : List AVal := m.map fun p => encN p.1
abbrev valsA (m : NMap) : List AVal := m.map fun p => .int .i64 ((p.2 : Nat) : Int)

theorem findA_names (m : NMap) (n : Nam) : ∀ i, findA shN (encN n) (keysA m) i = some ((m.findIdx? fun p => decide (n = p.1)).map (· + i)) := by
  induction m with
  | nil => intro i; rfl
  | cons p m ih =>
    intro i
    simp only [List.map_cons, findA, eqA_name, List.findIdx?_cons]
    by_cases h : n = p.1
    · simp [h]
    · simp only [h, decide_false, ih]
      cases m.findIdx? fun p => decide (n = p.1) with
      | none => rfl
      | some j => simp; omega

theorem lookAV_names {m : NMap} {n : Nam} {σ : Sto} : lookAV shN (.int .i64 0) true (encN n) (keysA m) (valsA m) σ = some (match m.get n with
    | some i => .tup [.int .i64 ((i : Nat) : Int), .bool true]
    | none => .tup [.int .i64 0, .bool false], σ) := by
  unfold lookAV
  rw [eqA_name, if_pos (by simp), findA_names]
  simp only [NMap.get]
  cases h : m.findIdx? fun p => decide (n = p.1) with
  | none =>
    have : (m.find? fun p => decide (n = p.1)) = none := by
      rw [List.find?_eq_none]
      rw [List.findIdx?_eq_none_iff] at h
      intro x hx; simp [h x hx]
    simp [this]
  | some j =>
    obtain ⟨hj, hp, hlt⟩ := List.findIdx?_eq_some_iff_getElem.1 h
    have : (m.find? fun p => decide (n = p.1)) = some m[j] := by
      rw [List.find?_eq_some_iff_getElem]
      exact ⟨hp, j, hj, rfl, fun k hk => by simpa using hlt k hk⟩
    simp [this, hj]

abbrev fmapN (m : NMap) : AVal := .fmap (keysA m) (valsA m)
@[go_sem] theorem lookupV_names {m : NMap} {a b : Int} {σ : Sto} : lookupV (.row [(0, 1, false, .int .i64), (1, 1, false, .int .i64)]) (.int .i64 0) true (.fmap (m.map fun p => encN p.1) (m.map fun p => .int .i64 ((p.2 : Nat) : Int))) (.agg [.int .i64 a, .int .i64 b]) σ = some (match m.get ⟨a, b⟩ with
    | some i => .tup [.int .i64 ((i : Nat) : Int), .bool true]
    | none => .tup [.int .i64 0, .bool false], σ) := lookAV_names (n := ⟨a, b⟩)

@[go_sem] theorem lookupV_map {sh : Shape} {z i : AVal} {ok : Bool} {o : Nat} {σ : Sto} : lookupV sh z ok (.map o) i σ = match σ[o]? with
    | some (.map ks vs) => lookAV sh z ok i ks vs σ
    | _ => none := rfl
@[go_sem] theorem lookAV_name {m : NMap} {a b : Int} {σ : Sto} : lookAV (.row [(0, 1, false, .int .i64), (1, 1, false, .int .i64)]) (.int .i64 0) true (.agg [.int .i64 a, .int .i64 b]) (m.map fun p => encN p.1) (m.map fun p => .int .i64 ((p.2 : Nat) : Int)) σ = some (match m.get ⟨a, b⟩ with
    | some i => .tup [.int .i64 ((i : Nat) : Int), .bool true]
    | none => .tup [.int .i64 0, .bool false], σ) := lookAV_names (n := ⟨a, b⟩)
theorem get_none {m : NMap} {n : Nam} (h : m.get n = none) : (m.findIdx? fun p => decide (n = p.1)) = none := by
  unfold NMap.get at h
  rw [Option.map_eq_none_iff, List.find?_eq_none] at h
  rw [List.findIdx?_eq_none_iff]
  intro x hx; simpa using h x hx
theorem mapupV_new {m : NMap} {n : Nam} {i o : Nat} {σ : Sto} (h : m.get n = none) (hσ : σ[o]? = some (.map (keysA m) (valsA m))) : mapupV shN (.map o) (encN n) (.int .i64 ((i : Nat) : Int)) σ = some (.und, σ.set o (.map (keysA (m ++ [(n, i)])) (valsA (m ++ [(n, i)])))) := by
  simp only [mapupV, hσ, eqA_name, decide_true, if_true, findA_names, get_none h, Option.map_none]
  simp
theorem snap_map {m : NMap} {o n : Nat} {σ : Sto} (hσ : σ[o]? = some (.map (keysA m) (valsA m))) : snapA σ (n + 2) (.map o) = some (fmapN m) := by
  have h0 : (AVal.map o).pure = false := by simp [AVal.names]
  rw [snapA, h0]
  simp only [Bool.false_eq_true, if_false, hσ]
  rw [mapM_snapN (v_names_map (fun _ => by simp (maxSteps := 2000000) only [go_sem, ↓reduceIte, Nat.reduceLT, Nat.reduceEqDiff, Nat.reduceLeDiff, Nat.reduceAdd, Nat.reduceSub, Nat.reduceMul, Int.reduceLT, Int.reduceLE, Int.reduceEq, Int.reduceNeg]) m), mapM_snapN (v_names_map (fun _ => by simp (maxSteps := 2000000) only [go_sem, ↓reduceIte, Nat.reduceLT, Nat.reduceEqDiff, Nat.reduceLeDiff, Nat.reduceAdd, Nat.reduceSub, Nat.reduceMul, Int.reduceLT, Int.reduceLE, Int.reduceEq, Int.reduceNeg]) m)]

def nmStep (m : NMap) (c : Com) (i : Nat) : NMap := match m.get c.nam with
  | some _ => m
  | none => m ++ [(c.nam, i)]
def nmFrom (m : NMap) : Nat → List Com → NMap
  | _, [] => m
  | i, c :: l => nmFrom (nmStep m c i) (i + 1) l
def nmap (l : List Com) : NMap := nmFrom [] 0 l

theorem names_keys {m : NMap} {p : Nat → Bool} : AVal.namesL p (m.map fun q => encN q.1) = true := v_names_map (fun _ => by simp (maxSteps := 2000000) only [go_sem, ↓reduceIte, Nat.reduceLT, Nat.reduceEqDiff, Nat.reduceLeDiff, Nat.reduceAdd, Nat.reduceSub, Nat.reduceMul, Int.reduceLT, Int.reduceLE, Int.reduceEq, Int.reduceNeg]) m
theorem names_vals {m : NMap} {p : Nat → Bool} : AVal.namesL p (m.map fun q => AVal.int .i64 ((q.2 : Nat) : Int)) = true := v_names_map (fun _ => by simp (maxSteps := 2000000) only [go_sem, ↓reduceIte, Nat.reduceLT, Nat.reduceEqDiff, Nat.reduceLeDiff, Nat.reduceAdd, Nat.reduceSub, Nat.reduceMul, Int.reduceLT, Int.reduceLE, Int.reduceEq, Int.reduceNeg]) m
attribute [go_sem] names_keys names_vals

theorem cut_indices_loop {f : SlF} {l : List Com} (hl : Fits l) : ∀ i, i ≤ l.length → ∀ m : NMap,
    Run T (Res [.tmp 2] (fmapN (nmFrom m i (l.drop i)))) (.inLoop cut_indices.b0 :: cut_indices.k0) (mkE 31 [(3, .map 0), (9, coms f l), (10, .int .i64 l.length), (11, .int .i64 i)]) [.map (keysA m) (valsA m)] := by
  refine up_ind ?_ fun i hi ih m => ?_
  · intro m
    rw [run_round, run_unfold cut_indices.b0.eq_1]
    rw [List.drop_length, nmFrom]
    simp (maxSteps := 2000000) only [go_sem, ↓reduceIte, Nat.reduceLT, Nat.reduceEqDiff, Nat.reduceLeDiff, Nat.reduceAdd, Nat.reduceSub, Nat.reduceMul, Int.reduceLT, Int.reduceLE, Int.reduceEq, Int.reduceNeg, run_unfold cut_indices.c0.eq_1, run_unfold cut_indices.c1.eq_1, run_unfold cut_indices.c2.eq_1, cut_indices.k0]
    exact snap_map rfl
  · rw [run_round, run_unfold cut_indices.b0.eq_1]
    rw [List.drop_eq_getElem_cons hi, nmFrom]
    cases h : m.get ⟨l[i].st, l[i].seq⟩ with
    | some j =>
      have e : nmStep m l[i] i = m := by unfold nmStep; rw [show l[i].nam = ⟨l[i].st, l[i].seq⟩ from rfl, h]
      simp (maxSteps := 2000000) only [go_sem, ↓reduceIte, Nat.reduceLT, Nat.reduceEqDiff, Nat.reduceLeDiff, Nat.reduceAdd, Nat.reduceSub, Nat.reduceMul, Int.reduceLT, Int.reduceLE, Int.reduceEq, Int.reduceNeg, hi, h, e, run_unfold cut_indices.c0.eq_1, run_unfold cut_indices.c1.eq_1, run_unfold cut_indices.c2.eq_1, cut_indices.k0, wrap_succ (show i < 9223372036854775807 by omega)]
      exact ih m
    | none =>
      have e : nmStep m l[i] i = m ++ [(⟨l[i].st, l[i].seq⟩, i)] := by unfold nmStep; rw [show l[i].nam = ⟨l[i].st, l[i].seq⟩ from rfl, h]
      simp (maxSteps := 2000000) only [go_sem, ↓reduceIte, Nat.reduceLT, Nat.reduceEqDiff, Nat.reduceLeDiff, Nat.reduceAdd, Nat.reduceSub, Nat.reduceMul, Int.reduceLT, Int.reduceLE, Int.reduceEq, Int.reduceNeg, hi, h, e, run_unfold cut_indices.c0.eq_1, run_unfold cut_indices.c1.eq_1, run_unfold cut_indices.c2.eq_1, cut_indices.k0, wrap_succ (show i < 9223372036854775807 by omega)]
      rw [mapupV_new (n := ⟨l[i].st, l[i].seq⟩) h (by rfl)]
      simp (maxSteps := 2000000) only [go_sem, ↓reduceIte, Nat.reduceLT, Nat.reduceEqDiff, Nat.reduceLeDiff, Nat.reduceAdd, Nat.reduceSub, Nat.reduceMul, Int.reduceLT, Int.reduceLE, Int.reduceEq, Int.reduceNeg, hi, h, e, run_unfold cut_indices.c0.eq_1, run_unfold cut_indices.c1.eq_1, run_unfold cut_indices.c2.eq_1, cut_indices.k0, wrap_succ (show i < 9223372036854775807 by omega)]
      exact ih _


theorem cut_indices_spec {f : SlF} {l : List Com} (hl : Fits l) {lv : List Nat} {σ : Sto} {R : Post} : Cw T true i_cut_indices [coms f l] lv σ R ↔ R (fmapN (nmap l)) σ := by
  refine cw_intro T_cut_indices (by simp only [go_sem]) (by simp) ?_; rw [run_unfold cut_indices.main.eq_1]
  simp (maxSteps := 2000000) only [go_sem, ↓reduceIte, Nat.reduceLT, Nat.reduceEqDiff, Nat.reduceLeDiff, Nat.reduceAdd, Nat.reduceSub, Nat.reduceMul, Int.reduceLT, Int.reduceLE, Int.reduceEq, Int.reduceNeg]
  exact cut_indices_loop hl 0 (by omega) []
@[go_sem] theorem cut_indices_call {f : SlF} {l : List Com} (hl : Fits l) {Q : Post3} {k : List Item} {os : List AOper} {d : Option Nat} {e : Env} {σ : Sto} : CallK T Q k os d e σ true i_cut_indices [coms f l] ↔ Run T Q (.ops os :: k) (put e d (fmapN (nmap l))) σ := cut_indices_spec hl


/-- the map has the first index of each name -/
theorem nmFrom_get (m : NMap) (i : Nat) (l : List Com) (n : Nam) : (nmFrom m i l).get n = match m.get n with
    | some j => some j
    | none => (l.findIdx? (isN n)).map (· + i) := by
  induction l generalizing m i with
  | nil => simp only [nmFrom, List.findIdx?_nil, Option.map_none]; cases m.get n <;> rfl
  | cons c l ih =>
    rw [nmFrom, ih, List.findIdx?_cons]
    have happ : ∀ (m : NMap) (a : Nam) (j : Nat), NMap.get (m ++ [(a, j)]) n = match m.get n with
        | some k => some k
        | none => if n = a then some j else none := by
      intro m a j
      simp only [NMap.get, List.find?_append]
      cases m.find? fun p => decide (n = p.1) with
      | some k => rfl
      | none => by_cases h : n = a <;> simp [h]
    have hn : isN n c = decide (n = c.nam) := by
      unfold isN Com.nam
      cases n with
      | mk a b =>
        simp only [Nam.mk.injEq]
        by_cases h1 : c.st = a
        · by_cases h2 : c.seq = b
          · simp [h1, h2]
          · simp [h2, Ne.symm h2]
        · simp [h1, Ne.symm h1]
    unfold nmStep
    cases hc : m.get c.nam with
    | some k =>
      simp only
      cases hm : m.get n with
      | some j => rfl
      | none =>
        simp only
        have hne : ¬ n = c.nam := fun e => by rw [e, hc] at hm; simp at hm
        rw [hn]
        simp only [hne, decide_false, Bool.false_eq_true, if_false]
        cases l.findIdx? (isN n) with
        | none => rfl
        | some j => simp; omega
    | none =>
      simp only
      rw [happ]
      cases hm : m.get n with
      | some j => rfl
      | none =>
        simp only
        rw [hn]
        by_cases h : n = c.nam
        · simp [h]
        · simp only [h, if_false, decide_false, Bool.false_eq_true]
          cases l.findIdx? (isN n) with
          | none => rfl
          | some j => simp; omega

theorem nmap_get (l : List Com) (n : Nam) : (nmap l).get n = l.findIdx? (isN n) := by
  unfold nmap
  rw [nmFrom_get]
  simp [NMap.get]

theorem nmap_cases (l : List Com) (n : Nam) : ((nmap l).get n = none ∧ l.find? (isN n) = none) ∨ ∃ (j : Nat) (h : j < l.length), (nmap l).get n = some j ∧ l.find? (isN n) = some l[j] := by
  rw [nmap_get]
  cases h : l.findIdx? (isN n) with
  | none =>
    left
    refine ⟨rfl, ?_⟩
    rw [List.find?_eq_none]
    rw [List.findIdx?_eq_none_iff] at h
    intro x hx; simp [h x hx]
  | some j =>
    right
    obtain ⟨hj, hp, hlt⟩ := List.findIdx?_eq_some_iff_getElem.1 h
    refine ⟨j, hj, rfl, ?_⟩
    rw [List.find?_eq_some_iff_getElem]
    exact ⟨hp, j, hj, rfl, fun k hk => by simpa using hlt k hk⟩

end Go.Abs
/- Walks of chapter 20: the program's closed cuts. -/
set_option linter.unusedSimpArgs false
set_option linter.unusedVariables false
namespace Go.Abs
open Go

/-- the first station from s on, of d, that has too much -/
def firstS (l : List Com) (c : List Int) (s : Nat) : Nat → Option Nat
  | 0 => none
  | d + 1 => if full l c s = true then firstS l c (s + 1) d else some s
def reachF (l : List Com) : Nat → List Int → List Int
  | 0, c => c
  | n + 1, c => match firstS l c 0 6 with
    | none => c
    | some s => reachF l n (c.set s (fit l c s : Nat))

theorem cut_reach_q {f : SlF} {l : List Com} {c : List Int} {s m : Nat} {Q : Post3} (hl : Fits l) (hv : valid c = true) (hs : s < 6) (hm : c.getD s 0 = (m : Int)) (hb : m < 1000)
    (hgood : fit l c s = m → Run T Q (.inLoop cut_reach.b1 :: cut_reach.k1) (mkE 58 [(0, coms f l), (1, .ref 0 6 0 6 1), (4, fmapN (nmap l)), (5, .bool false), (13, .int .i64 ((s + 1 : Nat) : Int))]) [.cells false (c.map fun n => .int .i64 n)])
    (hbad : fit l c s < m → Run T Q (.inLoop cut_reach.b0 :: cut_reach.k0) (mkE 58 [(0, coms f l), (1, .ref 0 6 0 6 1), (4, fmapN (nmap l)), (5, .bool true)]) [.cells false ((c.set s (fit l c s : Nat)).map fun n => .int .i64 n)]) :
    ∀ d q, q + d = m → lead (okq l c s) q d = fit l c s →
    Run T Q (.inLoop cut_reach.b2 :: cut_reach.k2) (mkE 58 [(0, coms f l), (1, .ref 0 6 0 6 1), (4, fmapN (nmap l)), (5, .bool false), (6, .int .i64 s), (13, .int .i64 s), (19, .int .i64 m), (20, .int .i64 q)]) [.cells false (c.map fun n => .int .i64 n)] := by
  have h6 := valid_len hv
  have hsl : s < c.length := by omega
  have hw1 := wrap_succ (show s < 9223372036854775807 by omega)
  intro d
  induction d with
  | zero =>
    intro q hq hf
    have hqm : q = m := by omega
    subst hqm
    rw [run_round, run_unfold cut_reach.b2.eq_1]
    simp (maxSteps := 2000000) only [go_sem, ↓reduceIte, Nat.reduceLT, Nat.reduceEqDiff, Nat.reduceLeDiff, Nat.reduceAdd, Nat.reduceSub, Nat.reduceMul, Int.reduceLT, Int.reduceLE, Int.reduceEq, Int.reduceNeg, run_unfold cut_reach.c0.eq_1, run_unfold cut_reach.c1.eq_1, run_unfold cut_reach.c2.eq_1, cut_reach.k0, cut_reach.k1, cut_reach.k2, hw1]
    exact hgood hf.symm
  | succ d ih =>
    intro q hq hf
    rw [run_round, run_unfold cut_reach.b2.eq_1]
    have hlt : (q : Int) < (m : Int) := by omega
    have hw := wrap_succ (show q < 9223372036854775807 by omega)
    have bad : okq l c s (q + 1) = false → fit l c s = q := fun h => by rw [← hf, lead, h]; rfl
    have good : okq l c s (q + 1) = true → lead (okq l c s) (q + 1) d = fit l c s := fun h => by rw [← hf, lead, h]; rfl
    rcases nmap_cases l ⟨s, ((q + 1 : Nat) : Int)⟩ with ⟨h1, h2⟩ | ⟨j, hj, h1, h2⟩
    · have hk : okq l c s (q + 1) = false := by unfold okq; rw [h2]
      have hq2 := bad hk
      have := hbad (by omega)
      rw [hq2] at this
      simp (maxSteps := 2000000) only [go_sem, ↓reduceIte, Nat.reduceLT, Nat.reduceEqDiff, Nat.reduceLeDiff, Nat.reduceAdd, Nat.reduceSub, Nat.reduceMul, Int.reduceLT, Int.reduceLE, Int.reduceEq, Int.reduceNeg, run_unfold cut_reach.c0.eq_1, run_unfold cut_reach.c1.eq_1, run_unfold cut_reach.c2.eq_1, cut_reach.k0, cut_reach.k1, cut_reach.k2, hlt, hw, h1, hs, hsl, h6, show s ≤ 5 by omega, show s + 1 ≤ 6 by omega]
      exact this
    · cases h3 : wf l[j]
      · have hk : okq l c s (q + 1) = false := by unfold okq; rw [h2]; simp [h3]
        have hq2 := bad hk
        have := hbad (by omega)
        rw [hq2] at this
        simp (maxSteps := 2000000) only [go_sem, ↓reduceIte, Nat.reduceLT, Nat.reduceEqDiff, Nat.reduceLeDiff, Nat.reduceAdd, Nat.reduceSub, Nat.reduceMul, Int.reduceLT, Int.reduceLE, Int.reduceEq, Int.reduceNeg, run_unfold cut_reach.c0.eq_1, run_unfold cut_reach.c1.eq_1, run_unfold cut_reach.c2.eq_1, cut_reach.k0, cut_reach.k1, cut_reach.k2, hlt, hw, h1, hj, h3, hs, hsl, h6, show s + 1 ≤ 6 by omega]
        exact this
      · have hleq : ∀ {Q : Post3} {k : List Item} {os : List AOper} {d : Option Nat} {e : Env}, CallK T Q k os d e [.cells false (c.map fun n => .int .i64 n)] true i_cut_Leq [ints l[j].pf l[j].past, .ref 0 6 0 6 1] ↔ Run T Q (.ops os :: k) (put e d (.bool (leq l[j].past c))) [.cells false (c.map fun n => .int .i64 n)] := by
          intro Q k os d e
          exact callK_live T_cut_Leq (as := [ints l[j].pf l[j].past, ints .lst c]) cut_Leq_spec (by
            rw [mapM_scons, snapDepth_eq, snapA_step (by simp (maxSteps := 2000000) only [go_sem, ↓reduceIte, Nat.reduceLT, Nat.reduceEqDiff, Nat.reduceLeDiff, Nat.reduceAdd, Nat.reduceSub, Nat.reduceMul, Int.reduceLT, Int.reduceLE, Int.reduceEq, Int.reduceNeg]), mapM_scons, snap_lit (c := c) (by rfl) h6, mapM_snil]) (by simp (maxSteps := 2000000) only [go_sem, ↓reduceIte, Nat.reduceLT, Nat.reduceEqDiff, Nat.reduceLeDiff, Nat.reduceAdd, Nat.reduceSub, Nat.reduceMul, Int.reduceLT, Int.reduceLE, Int.reduceEq, Int.reduceNeg]) rfl
        cases h4 : leq l[j].past c
        · have hk : okq l c s (q + 1) = false := by unfold okq; rw [h2]; simp [h3, h4]
          have hq2 := bad hk
          have := hbad (by omega)
          rw [hq2] at this
          simp (maxSteps := 2000000) only [go_sem, ↓reduceIte, Nat.reduceLT, Nat.reduceEqDiff, Nat.reduceLeDiff, Nat.reduceAdd, Nat.reduceSub, Nat.reduceMul, Int.reduceLT, Int.reduceLE, Int.reduceEq, Int.reduceNeg, run_unfold cut_reach.c0.eq_1, run_unfold cut_reach.c1.eq_1, run_unfold cut_reach.c2.eq_1, cut_reach.k0, cut_reach.k1, cut_reach.k2, hlt, hw, h1, hj, h3, hleq, h4, hs, hsl, h6, show s + 1 ≤ 6 by omega]
          exact this
        · have hk : okq l c s (q + 1) = true := by unfold okq; rw [h2]; simp [h3, h4]
          simp (maxSteps := 2000000) only [go_sem, ↓reduceIte, Nat.reduceLT, Nat.reduceEqDiff, Nat.reduceLeDiff, Nat.reduceAdd, Nat.reduceSub, Nat.reduceMul, Int.reduceLT, Int.reduceLE, Int.reduceEq, Int.reduceNeg, run_unfold cut_reach.c0.eq_1, run_unfold cut_reach.c1.eq_1, run_unfold cut_reach.c2.eq_1, cut_reach.k0, cut_reach.k1, cut_reach.k2, hlt, hw, h1, hj, h3, hleq, h4, hs, hsl, h6]
          exact ih (q + 1) (by omega) (good hk)

theorem full_iff {l : List Com} {c : List Int} (hv : valid c = true) {s : Nat} (hs : s < 6) {m : Nat} (hm : c.getD s 0 = (m : Int)) : full l c s = decide (fit l c s = m) := by
  have h := fit_le (l := l) (c := c) (s := s)
  rw [hm] at h
  unfold full
  rw [hm]
  by_cases e : fit l c s = m
  · simp [e]
  · have : fit l c s < m := by
      have : ((m : Int)).toNat = m := rfl
      omega
    simp [e, this]

theorem cut_reach_s {f : SlF} {l : List Com} {c : List Int} {Q : Post3} (hl : Fits l) (hv : valid c = true)
    (hgood : firstS l c 0 6 = none → Run T Q (.inLoop cut_reach.b0 :: cut_reach.k0) (mkE 58 [(0, coms f l), (1, .ref 0 6 0 6 1), (4, fmapN (nmap l)), (5, .bool false)]) [.cells false (c.map fun n => .int .i64 n)])
    (hbad : ∀ s, firstS l c 0 6 = some s → s < 6 → fit l c s < (c.getD s 0).toNat → Run T Q (.inLoop cut_reach.b0 :: cut_reach.k0) (mkE 58 [(0, coms f l), (1, .ref 0 6 0 6 1), (4, fmapN (nmap l)), (5, .bool true)]) [.cells false ((c.set s (fit l c s : Nat)).map fun n => .int .i64 n)]) :
    ∀ i, i ≤ 6 → firstS l c i (6 - i) = firstS l c 0 6 →
    Run T Q (.inLoop cut_reach.b1 :: cut_reach.k1) (mkE 58 [(0, coms f l), (1, .ref 0 6 0 6 1), (4, fmapN (nmap l)), (5, .bool false), (13, .int .i64 i)]) [.cells false (c.map fun n => .int .i64 n)] := by
  have h6 := valid_len hv
  refine up_ind ?_ fun i hi ih hf => ?_
  · intro hf
    rw [run_round, run_unfold cut_reach.b1.eq_1]
    simp (maxSteps := 2000000) only [go_sem, ↓reduceIte, Nat.reduceLT, Nat.reduceEqDiff, Nat.reduceLeDiff, Nat.reduceAdd, Nat.reduceSub, Nat.reduceMul, Int.reduceLT, Int.reduceLE, Int.reduceEq, Int.reduceNeg, run_unfold cut_reach.c0.eq_1, run_unfold cut_reach.c1.eq_1, run_unfold cut_reach.c2.eq_1, cut_reach.k0, cut_reach.k1, cut_reach.k2]
    exact hgood hf.symm
  · rw [run_round, run_unfold cut_reach.b1.eq_1]
    have hil : i < c.length := by omega
    obtain ⟨m, g1, g2, g3⟩ := valid_get hv hil
    have hgd : c.getD i 0 = c[i] := by rw [List.getD_eq_getElem?_getD, List.getElem?_eq_getElem hil]; rfl
    have hfu := full_iff (l := l) hv hi (hgd.trans g1)
    rw [show 6 - i = (6 - (i + 1)) + 1 by omega, firstS] at hf
    simp (maxSteps := 2000000) only [go_sem, ↓reduceIte, Nat.reduceLT, Nat.reduceEqDiff, Nat.reduceLeDiff, Nat.reduceAdd, Nat.reduceSub, Nat.reduceMul, Int.reduceLT, Int.reduceLE, Int.reduceEq, Int.reduceNeg, run_unfold cut_reach.c0.eq_1, run_unfold cut_reach.c1.eq_1, run_unfold cut_reach.c2.eq_1, cut_reach.k0, cut_reach.k1, cut_reach.k2, show ((i : Int) < 6) by omega, hil, h6, hi, g1]
    refine cut_reach_q hl hv hi (hgd.trans g1) g2 (fun he => ?_) (fun hlt => ?_) m 0 (by omega) (by unfold fit; rw [g3])
    · have : full l c i = true := by rw [hfu, he]; simp
      rw [if_pos this] at hf
      exact ih hf
    · have : full l c i = false := by rw [hfu]; simp; omega
      rw [this] at hf
      simp only [Bool.false_eq_true, if_false] at hf
      exact hbad i hf.symm hi (by rw [g3]; exact hlt)

theorem cut_reach_loop {f : SlF} {l : List Com} {Q : Post3} (hl : Fits l) : ∀ n (c : List Int), valid c = true → total c < n →
    (∀ e, Q .normal e [.cells false ((reachF l n c).map fun n => .int .i64 n)]) →
    Run T Q (.inLoop cut_reach.b0 :: cut_reach.k0) (mkE 58 [(0, coms f l), (1, .ref 0 6 0 6 1), (4, fmapN (nmap l)), (5, .bool true)]) [.cells false (c.map fun n => .int .i64 n)] := by
  intro n
  induction n with
  | zero => intro c _ h; omega
  | succ n ih =>
    intro c hv hn hQ
    rw [run_round, run_unfold cut_reach.b0.eq_1]
    simp (maxSteps := 2000000) only [go_sem, ↓reduceIte, Nat.reduceLT, Nat.reduceEqDiff, Nat.reduceLeDiff, Nat.reduceAdd, Nat.reduceSub, Nat.reduceMul, Int.reduceLT, Int.reduceLE, Int.reduceEq, Int.reduceNeg, run_unfold cut_reach.c0.eq_1, run_unfold cut_reach.c1.eq_1, run_unfold cut_reach.c2.eq_1, cut_reach.k0, cut_reach.k1, cut_reach.k2]
    refine cut_reach_s hl hv (fun hf => ?_) (fun s hf hs hlt => ?_) 0 (by omega) rfl
    · rw [run_round, run_unfold cut_reach.b0.eq_1]
      simp (maxSteps := 2000000) only [go_sem, ↓reduceIte, Nat.reduceLT, Nat.reduceEqDiff, Nat.reduceLeDiff, Nat.reduceAdd, Nat.reduceSub, Nat.reduceMul, Int.reduceLT, Int.reduceLE, Int.reduceEq, Int.reduceNeg, run_unfold cut_reach.c0.eq_1, run_unfold cut_reach.c1.eq_1, run_unfold cut_reach.c2.eq_1, cut_reach.k0, cut_reach.k1, cut_reach.k2]
      have := hQ
      rw [reachF, hf] at this
      exact this _
    · have hsl : s < c.length := by rw [valid_len hv]; exact hs
      have h3 := total_set (v := fit l c s) hsl
      refine ih _ (valid_set hv (by omega) (fit_small hv hs)) (by omega) fun e => ?_
      have := hQ e
      rw [reachF, hf] at this
      exact this

theorem cut_reach_spec {f : SlF} {l : List Com} {c : List Int} (hl : Fits l) (hv : valid c = true) {R : Post} : Cw T false i_cut_reach [coms f l, .ref 0 6 0 6 1] [] [.cells false (c.map fun n => .int .i64 n)] R ↔ R (.tup []) [.cells false ((reachF l 6000 c).map fun n => .int .i64 n)] := by
  refine Cw.iff_of fun R hR => ?_
  rw [cw_enter T_cut_reach (by simp), run_unfold cut_reach.main.eq_1]
  simp (maxSteps := 2000000) only [go_sem, ↓reduceIte, Nat.reduceLT, Nat.reduceEqDiff, Nat.reduceLeDiff, Nat.reduceAdd, Nat.reduceSub, Nat.reduceMul, Int.reduceLT, Int.reduceLE, Int.reduceEq, Int.reduceNeg, hl]
  refine cut_reach_loop hl 6000 c hv (total_le hv) fun e => ?_
  exact hR

end Go.Abs
/- Walks of chapter 20: closed, greatest, consistent. -/
set_option linter.unusedSimpArgs false
set_option linter.unusedVariables false
namespace Go.Abs
open Go

theorem slices_Equal_int_loop {f g : SlF} {a b : List Int} (ha : Fits a) (hb : b.length = a.length) : ∀ i, i ≤ a.length →
    Run T (Res [.tmp 4] (.bool (decide (a.drop i = b.drop i)))) (.inLoop slices_Equal_int.b0 :: slices_Equal_int.k0) (mkE 26 [(0, ints f a), (1, ints g b), (12, .int .i64 a.length), (13, .int .i64 i)]) [] := by
  refine up_ind ?_ fun i hi ih => ?_
  · rw [run_round, run_unfold slices_Equal_int.b0.eq_1]
    simp (maxSteps := 2000000) only [go_sem, ↓reduceIte, Nat.reduceLT, Nat.reduceEqDiff, Nat.reduceLeDiff, Nat.reduceAdd, Nat.reduceSub, Nat.reduceMul, Int.reduceLT, Int.reduceLE, Int.reduceEq, Int.reduceNeg, run_unfold slices_Equal_int.c0.eq_1, run_unfold slices_Equal_int.c1.eq_1, slices_Equal_int.k0, List.drop_length, show b.drop a.length = [] by rw [← hb]; exact List.drop_length]
  · rw [run_round, run_unfold slices_Equal_int.b0.eq_1]
    have h2 : i < b.length := by omega
    rw [List.drop_eq_getElem_cons hi, List.drop_eq_getElem_cons h2]
    simp (maxSteps := 2000000) only [go_sem, ↓reduceIte, Nat.reduceLT, Nat.reduceEqDiff, Nat.reduceLeDiff, Nat.reduceAdd, Nat.reduceSub, Nat.reduceMul, Int.reduceLT, Int.reduceLE, Int.reduceEq, Int.reduceNeg, hi, h2, List.cons.injEq]
    by_cases h : a[i] = b[i]
    · simp (maxSteps := 2000000) only [go_sem, ↓reduceIte, Nat.reduceLT, Nat.reduceEqDiff, Nat.reduceLeDiff, Nat.reduceAdd, Nat.reduceSub, Nat.reduceMul, Int.reduceLT, Int.reduceLE, Int.reduceEq, Int.reduceNeg, h, wrap_succ (show i < 9223372036854775807 by omega)]
      exact ih
    · simp (maxSteps := 2000000) only [go_sem, ↓reduceIte, Nat.reduceLT, Nat.reduceEqDiff, Nat.reduceLeDiff, Nat.reduceAdd, Nat.reduceSub, Nat.reduceMul, Int.reduceLT, Int.reduceLE, Int.reduceEq, Int.reduceNeg, h]

theorem slices_Equal_int_spec {f g : SlF} {a b : List Int} (ha : Fits a) {lv : List Nat} {σ : Sto} {R : Post} : Cw T true i_slices_Equal_int [ints f a, ints g b] lv σ R ↔ R (.bool (decide (a = b))) σ := by
  refine cw_intro T_slices_Equal_int (by simp only [go_sem]) (by simp) ?_; rw [run_unfold slices_Equal_int.main.eq_1]
  simp (maxSteps := 2000000) only [go_sem, ↓reduceIte, Nat.reduceLT, Nat.reduceEqDiff, Nat.reduceLeDiff, Nat.reduceAdd, Nat.reduceSub, Nat.reduceMul, Int.reduceLT, Int.reduceLE, Int.reduceEq, Int.reduceNeg]
  by_cases h : a.length = b.length
  · simp (maxSteps := 2000000) only [go_sem, ↓reduceIte, Nat.reduceLT, Nat.reduceEqDiff, Nat.reduceLeDiff, Nat.reduceAdd, Nat.reduceSub, Nat.reduceMul, Int.reduceLT, Int.reduceLE, Int.reduceEq, Int.reduceNeg, h]
    have := slices_Equal_int_loop (f := f) (g := g) ha h.symm 0 (by omega)
    rw [h] at this
    exact this
  · have h' : ¬ a = b := fun e => h (by rw [e])
    have h2 : ¬ ((a.length : Int) = (b.length : Int)) := by omega
    simp (maxSteps := 2000000) only [go_sem, ↓reduceIte, Nat.reduceLT, Nat.reduceEqDiff, Nat.reduceLeDiff, Nat.reduceAdd, Nat.reduceSub, Nat.reduceMul, Int.reduceLT, Int.reduceLE, Int.reduceEq, Int.reduceNeg, h2, h']
@[go_sem] theorem slices_Equal_int_call {f g : SlF} {a b : List Int} (ha : Fits a) {Q : Post3} {k : List Item} {os : List AOper} {d : Option Nat} {e : Env} {σ : Sto} : CallK T Q k os d e σ true i_slices_Equal_int [ints f a, ints g b] ↔ Run T Q (.ops os :: k) (put e d (.bool (decide (a = b)))) σ := slices_Equal_int_spec ha


theorem reachF_valid {l : List Com} : ∀ n (c : List Int), valid c = true → valid (reachF l n c) = true
  | 0, c, h => h
  | n + 1, c, h => by
    unfold reachF
    split
    · exact h
    · rename_i s hs
      have hs6 : s < 6 := by
        have : ∀ d i, firstS l c i d = some s → s < i + d := by
          intro d
          induction d with
          | zero => intro i h; simp [firstS] at h
          | succ d ih =>
            intro i h
            unfold firstS at h
            split at h
            · have := ih (i + 1) h; omega
            · simp at h; omega
        exact this 6 0 hs
      exact reachF_valid n _ (valid_set h (by omega) (fit_small h hs6))

theorem ne_nil_of_valid {c : List Int} (h : valid c = true) : c ≠ [] := by intro e; have := valid_len h; rw [e] at this; simp at this
theorem bytes_of_valid {c : List Int} (h : valid c = true) : c.length * 8 ≤ maxBytes := by have := valid_len h; unfold maxBytes; omega

theorem snap_litN {σ : Sto} {n o m : Nat} {c : List Int} (hσ : σ[o]? = some (.cells false (c.map fun n => AVal.int .i64 n))) (hm : c.length = m) : snapA σ (n + 2) (.ref o m 0 m 1) = some (ints .lst c) := by
  subst hm; exact snap_ints hσ

def closedP (l : List Com) (c : List Int) : Bool := valid c && decide (reachF l 6000 c = c)

theorem cut_Closed_spec {f g : SlF} {l : List Com} {c : List Int} (hl : Fits l) {lv : List Nat} {σ : Sto} {R : Post} : Cw T true i_cut_Closed [coms f l, ints g c] lv σ R ↔ R (.bool (closedP l c)) σ := by
  refine cw_intro T_cut_Closed (by simp only [go_sem]) (by simp) ?_; rw [run_unfold cut_Closed.main.eq_1]
  unfold closedP
  cases hv : valid c
  case false => simp (maxSteps := 2000000) only [go_sem, ↓reduceIte, Nat.reduceLT, Nat.reduceEqDiff, Nat.reduceLeDiff, Nat.reduceAdd, Nat.reduceSub, Nat.reduceMul, Int.reduceLT, Int.reduceLE, Int.reduceEq, Int.reduceNeg, hv]
  have h6 := valid_len hv
  simp (maxSteps := 2000000) only [go_sem, ↓reduceIte, Nat.reduceLT, Nat.reduceEqDiff, Nat.reduceLeDiff, Nat.reduceAdd, Nat.reduceSub, Nat.reduceMul, Int.reduceLT, Int.reduceLE, Int.reduceEq, Int.reduceNeg, hv, ne_nil_of_valid hv, bytes_of_valid hv]
  rw [h6, callK_shared (cut_reach_spec hl hv)]
  simp (maxSteps := 2000000) only [go_sem, ↓reduceIte, Nat.reduceLT, Nat.reduceEqDiff, Nat.reduceLeDiff, Nat.reduceAdd, Nat.reduceSub, Nat.reduceMul, Int.reduceLT, Int.reduceLE, Int.reduceEq, Int.reduceNeg]
  have hr := reachF_valid (l := l) 6000 c hv
  rw [callK_live T_slices_Equal_int (as := [ints .lst (reachF l 6000 c), ints g c]) (slices_Equal_int_spec (fits_of_valid hr)) (by
    rw [mapM_scons, snapDepth_eq, snap_lit (c := reachF l 6000 c) (by rfl) (valid_len hr), mapM_scons, snapA_step (by simp (maxSteps := 2000000) only [go_sem, ↓reduceIte, Nat.reduceLT, Nat.reduceEqDiff, Nat.reduceLeDiff, Nat.reduceAdd, Nat.reduceSub, Nat.reduceMul, Int.reduceLT, Int.reduceLE, Int.reduceEq, Int.reduceNeg]), mapM_snil]) (by simp (maxSteps := 2000000) only [go_sem, ↓reduceIte, Nat.reduceLT, Nat.reduceEqDiff, Nat.reduceLeDiff, Nat.reduceAdd, Nat.reduceSub, Nat.reduceMul, Int.reduceLT, Int.reduceLE, Int.reduceEq, Int.reduceNeg]) rfl]
  simp (maxSteps := 2000000) only [go_sem, ↓reduceIte, Nat.reduceLT, Nat.reduceEqDiff, Nat.reduceLeDiff, Nat.reduceAdd, Nat.reduceSub, Nat.reduceMul, Int.reduceLT, Int.reduceLE, Int.reduceEq, Int.reduceNeg]
@[go_sem] theorem cut_Closed_call {f g : SlF} {l : List Com} {c : List Int} (hl : Fits l) {Q : Post3} {k : List Item} {os : List AOper} {d : Option Nat} {e : Env} {σ : Sto} : CallK T Q k os d e σ true i_cut_Closed [coms f l, ints g c] ↔ Run T Q (.ops os :: k) (put e d (.bool (closedP l c))) σ := cut_Closed_spec hl


def greatestP (l : List Com) (c : List Int) : Cut := if valid c = true then ⟨.lst, reachF l 6000 c, 0⟩ else ⟨.nil, [], 200⟩

theorem cut_Greatest_spec {f g : SlF} {l : List Com} {c : List Int} (hl : Fits l) {lv : List Nat} {σ : Sto} {R : Post} : Cw T true i_cut_Greatest [coms f l, ints g c] lv σ R ↔ R (encT (greatestP l c)) σ := by
  refine cw_intro T_cut_Greatest (by simp only [go_sem]) (by simp) ?_; rw [run_unfold cut_Greatest.main.eq_1]
  unfold greatestP
  cases hv : valid c
  case false => simp (maxSteps := 2000000) only [go_sem, ↓reduceIte, Nat.reduceLT, Nat.reduceEqDiff, Nat.reduceLeDiff, Nat.reduceAdd, Nat.reduceSub, Nat.reduceMul, Int.reduceLT, Int.reduceLE, Int.reduceEq, Int.reduceNeg, hv, encT]
  have h6 := valid_len hv
  simp (maxSteps := 2000000) only [go_sem, ↓reduceIte, Nat.reduceLT, Nat.reduceEqDiff, Nat.reduceLeDiff, Nat.reduceAdd, Nat.reduceSub, Nat.reduceMul, Int.reduceLT, Int.reduceLE, Int.reduceEq, Int.reduceNeg, hv, ne_nil_of_valid hv, bytes_of_valid hv]
  rw [h6, callK_shared (cut_reach_spec hl hv)]
  simp (maxSteps := 2000000) only [go_sem, ↓reduceIte, Nat.reduceLT, Nat.reduceEqDiff, Nat.reduceLeDiff, Nat.reduceAdd, Nat.reduceSub, Nat.reduceMul, Int.reduceLT, Int.reduceLE, Int.reduceEq, Int.reduceNeg]
  rw [snap_litN (n := 61) (c := reachF l 6000 c) (by rfl) (valid_len (reachF_valid 6000 c hv))]
  simp (maxSteps := 2000000) only [go_sem, ↓reduceIte, Nat.reduceLT, Nat.reduceEqDiff, Nat.reduceLeDiff, Nat.reduceAdd, Nat.reduceSub, Nat.reduceMul, Int.reduceLT, Int.reduceLE, Int.reduceEq, Int.reduceNeg]
@[go_sem] theorem cut_Greatest_call {f g : SlF} {l : List Com} {c : List Int} (hl : Fits l) {Q : Post3} {k : List Item} {os : List AOper} {d : Option Nat} {e : Env} {σ : Sto} : CallK T Q k os d e σ true i_cut_Greatest [coms f l, ints g c] ↔ Run T Q (.ops os :: k) (put e d (encT (greatestP l c))) σ := cut_Greatest_spec hl


theorem l20_greatest_spec {f g : SlF} {l : List Com} {c : List Int} (hl : Fits l) {lv : List Nat} {σ : Sto} {R : Post} : Cw T true i_l20_greatest [coms f l, ints g c] lv σ R ↔ R (encU (greatestP l c)) σ := by
  refine cw_intro T_l20_greatest (by simp only [go_sem]) (by simp) ?_; rw [run_unfold l20_greatest.main.eq_1]
  simp (maxSteps := 2000000) only [go_sem, ↓reduceIte, Nat.reduceLT, Nat.reduceEqDiff, Nat.reduceLeDiff, Nat.reduceAdd, Nat.reduceSub, Nat.reduceMul, Int.reduceLT, Int.reduceLE, Int.reduceEq, Int.reduceNeg, hl]
@[go_sem] theorem l20_greatest_call {f g : SlF} {l : List Com} {c : List Int} (hl : Fits l) {Q : Post3} {k : List Item} {os : List AOper} {d : Option Nat} {e : Env} {σ : Sto} : CallK T Q k os d e σ true i_l20_greatest [coms f l, ints g c] ↔ Run T Q (.ops os :: k) (put e d (encU (greatestP l c))) σ := l20_greatest_spec hl


/-! ### Consistent lists -/
theorem slices_IndexFunc_Commit_loop {f : SlF} {l : List Com} (hl : Fits l) {g : FuncId} {p : Com → Bool} (hg : ∀ {x : Com} {lv : List Nat} {σ : Sto} {R : Post}, Cw T true g [encC x] lv σ R ↔ R (.bool (p x)) σ) : ∀ i, i ≤ l.length →
    Run T (Res [.tmp 4] (.int .i64 (match (l.drop i).findIdx? p with | some j => (i + j : Nat) | none => -1))) (.inLoop slices_IndexFunc_Commit.b0 :: slices_IndexFunc_Commit.k0) (mkE 19 [(0, coms f l), (1, .clo (.func g) [] []), (7, .int .i64 l.length), (8, .int .i64 i)]) [] := by
  refine up_ind ?_ fun i hi ih => ?_
  · rw [run_round, run_unfold slices_IndexFunc_Commit.b0.eq_1]
    simp (maxSteps := 2000000) only [go_sem, ↓reduceIte, Nat.reduceLT, Nat.reduceEqDiff, Nat.reduceLeDiff, Nat.reduceAdd, Nat.reduceSub, Nat.reduceMul, Int.reduceLT, Int.reduceLE, Int.reduceEq, Int.reduceNeg, run_unfold slices_IndexFunc_Commit.c0.eq_1, run_unfold slices_IndexFunc_Commit.c1.eq_1, slices_IndexFunc_Commit.k0, List.drop_length, List.findIdx?_nil]
  · rw [run_round, run_unfold slices_IndexFunc_Commit.b0.eq_1]
    rw [List.drop_eq_getElem_cons hi]
    have hc : ∀ {Q : Post3} {k : List Item} {os : List AOper} {d : Option Nat} {e : Env} {σ : Sto}, CallK T Q k os d e σ true g [encC l[i]] ↔ Run T Q (.ops os :: k) (put e d (.bool (p l[i]))) σ := callK_of hg
    simp (maxSteps := 2000000) only [go_sem, ↓reduceIte, Nat.reduceLT, Nat.reduceEqDiff, Nat.reduceLeDiff, Nat.reduceAdd, Nat.reduceSub, Nat.reduceMul, Int.reduceLT, Int.reduceLE, Int.reduceEq, Int.reduceNeg, hi, List.findIdx?_cons, hc]
    cases hp : p l[i]
    · simp (maxSteps := 2000000) only [go_sem, ↓reduceIte, Nat.reduceLT, Nat.reduceEqDiff, Nat.reduceLeDiff, Nat.reduceAdd, Nat.reduceSub, Nat.reduceMul, Int.reduceLT, Int.reduceLE, Int.reduceEq, Int.reduceNeg, wrap_succ (show i < 9223372036854775807 by omega)]
      refine Eq.mp (congrArg (fun v => Run T (Res [.tmp 4] (.int .i64 v)) _ _ _) ?_) ih
      cases (l.drop (i + 1)).findIdx? p with
      | none => rfl
      | some j => simp; omega
    · simp (maxSteps := 2000000) only [go_sem, ↓reduceIte, Nat.reduceLT, Nat.reduceEqDiff, Nat.reduceLeDiff, Nat.reduceAdd, Nat.reduceSub, Nat.reduceMul, Int.reduceLT, Int.reduceLE, Int.reduceEq, Int.reduceNeg, Nat.add_zero]

theorem slices_IndexFunc_Commit_spec {f : SlF} {l : List Com} (hl : Fits l) {g : FuncId} {p : Com → Bool} (hg : ∀ {x : Com} {lv : List Nat} {σ : Sto} {R : Post}, Cw T true g [encC x] lv σ R ↔ R (.bool (p x)) σ) {lv : List Nat} {σ : Sto} {R : Post} :
    Cw T true i_slices_IndexFunc_Commit [coms f l, .clo (.func g) [] []] lv σ R ↔ R (.int .i64 (idxOf p l)) σ := by
  refine cw_intro T_slices_IndexFunc_Commit (by simp only [go_sem]) (by simp) ?_; rw [run_unfold slices_IndexFunc_Commit.main.eq_1]
  simp (maxSteps := 2000000) only [go_sem, ↓reduceIte, Nat.reduceLT, Nat.reduceEqDiff, Nat.reduceLeDiff, Nat.reduceAdd, Nat.reduceSub, Nat.reduceMul, Int.reduceLT, Int.reduceLE, Int.reduceEq, Int.reduceNeg]
  have := slices_IndexFunc_Commit_loop (f := f) hl hg 0 (by omega)
  simp only [List.drop_zero, Nat.zero_add] at this
  exact this

theorem slices_ContainsFunc_Commit_spec {f : SlF} {l : List Com} (hl : Fits l) {g : FuncId} {p : Com → Bool} (hg : ∀ {x : Com} {lv : List Nat} {σ : Sto} {R : Post}, Cw T true g [encC x] lv σ R ↔ R (.bool (p x)) σ) {lv : List Nat} {σ : Sto} {R : Post} :
    Cw T true i_slices_ContainsFunc_Commit [coms f l, .clo (.func g) [] []] lv σ R ↔ R (.bool (l.any p)) σ := by
  refine cw_intro T_slices_ContainsFunc_Commit (by simp only [go_sem]) (by simp) ?_; rw [run_unfold slices_ContainsFunc_Commit.main.eq_1]
  simp (maxSteps := 2000000) only [go_sem, ↓reduceIte, Nat.reduceLT, Nat.reduceEqDiff, Nat.reduceLeDiff, Nat.reduceAdd, Nat.reduceSub, Nat.reduceMul, Int.reduceLT, Int.reduceLE, Int.reduceEq, Int.reduceNeg, callK_of (slices_IndexFunc_Commit_spec hl hg), any_idx]

theorem cut_Consistent_1_spec {c : Com} {lv : List Nat} {σ : Sto} {R : Post} : Cw T true i_cut_Consistent_1 [encC c] lv σ R ↔ R (.bool (!wf c)) σ := by
  refine cw_intro T_cut_Consistent_1 (by simp only [go_sem]) (by simp) ?_; rw [run_unfold cut_Consistent_1.main.eq_1]
  simp (maxSteps := 2000000) only [go_sem, ↓reduceIte, Nat.reduceLT, Nat.reduceEqDiff, Nat.reduceLeDiff, Nat.reduceAdd, Nat.reduceSub, Nat.reduceMul, Int.reduceLT, Int.reduceLE, Int.reduceEq, Int.reduceNeg]
@[go_sem] theorem cut_Consistent_1_call {c : Com} {Q : Post3} {k : List Item} {os : List AOper} {d : Option Nat} {e : Env} {σ : Sto} : CallK T Q k os d e σ true i_cut_Consistent_1 [encC c] ↔ Run T Q (.ops os :: k) (put e d (.bool (!wf c))) σ := cut_Consistent_1_spec


def consistentP (l : List Com) : Bool := decide ((nmap l).length = l.length) && l.all wf && l.all fun c => knownL l c.past 0 c.past

theorem cut_Consistent_in {f : SlF} {l : List Com} {c : Com} {i : Nat} {v : Bool} (hl : Fits l) (hp : Fits c.past)
    (hgood : knownL l c.past 0 c.past = true → Run T (Res [.tmp 2] (.bool v)) (.inLoop cut_Consistent.b0 :: cut_Consistent.k0) (mkE 60 [(0, coms f l), (3, fmapN (nmap l)), (21, coms f l), (22, .int .i64 l.length), (23, .int .i64 ((i + 1 : Nat) : Int))]) [])
    (hbad : knownL l c.past 0 c.past = false → v = false) (hi : i < l.length) : ∀ j, j ≤ c.past.length → knownL l c.past j (c.past.drop j) = knownL l c.past 0 c.past →
    Run T (Res [.tmp 2] (.bool v)) (.inLoop cut_Consistent.b1 :: cut_Consistent.k1 0) (mkE 60 [(0, coms f l), (3, fmapN (nmap l)), (5, .ptr 0 5 0), (21, coms f l), (22, .int .i64 l.length), (23, .int .i64 i), (28, ints c.pf c.past), (29, .int .i64 c.past.length), (30, .int .i64 j)]) [.cells false (encC c).cells] := by
  have hw := wrap_succ (show i < 9223372036854775807 by omega)
  refine up_ind ?_ fun j hj ih hk => ?_
  · intro hk
    rw [run_round, run_unfold cut_Consistent.b1.eq_1]
    rw [List.drop_length, knownL] at hk
    simp (maxSteps := 2000000) only [go_sem, ↓reduceIte, Nat.reduceLT, Nat.reduceEqDiff, Nat.reduceLeDiff, Nat.reduceAdd, Nat.reduceSub, Nat.reduceMul, Int.reduceLT, Int.reduceLE, Int.reduceEq, Int.reduceNeg, run_unfold cut_Consistent.c0.eq_1, run_unfold cut_Consistent.c1.eq_1, run_unfold cut_Consistent.c2.eq_1, run_unfold cut_Consistent.c3.eq_1, cut_Consistent.k0, cut_Consistent.k1, hw]
    exact hgood hk.symm
  · rw [run_round, run_unfold cut_Consistent.b1.eq_1]
    rw [List.drop_eq_getElem_cons hj, knownL] at hk
    have hw2 := wrap_succ (show j < 9223372036854775807 by omega)
    by_cases h0 : c.past[j] = 0
    · rw [if_pos h0, Bool.true_and] at hk
      simp (maxSteps := 2000000) only [go_sem, ↓reduceIte, Nat.reduceLT, Nat.reduceEqDiff, Nat.reduceLeDiff, Nat.reduceAdd, Nat.reduceSub, Nat.reduceMul, Int.reduceLT, Int.reduceLE, Int.reduceEq, Int.reduceNeg, run_unfold cut_Consistent.c0.eq_1, run_unfold cut_Consistent.c1.eq_1, run_unfold cut_Consistent.c2.eq_1, run_unfold cut_Consistent.c3.eq_1, cut_Consistent.k0, cut_Consistent.k1, hj, h0, hw2]
      exact ih hk
    · rw [if_neg h0] at hk
      rcases nmap_cases l ⟨j, c.past[j]⟩ with ⟨h1, h2⟩ | ⟨q, hq, h1, h2⟩
      · rw [h2] at hk
        have := hbad (by rw [← hk]; rfl)
        subst this
        simp (maxSteps := 2000000) only [go_sem, ↓reduceIte, Nat.reduceLT, Nat.reduceEqDiff, Nat.reduceLeDiff, Nat.reduceAdd, Nat.reduceSub, Nat.reduceMul, Int.reduceLT, Int.reduceLE, Int.reduceEq, Int.reduceNeg, run_unfold cut_Consistent.c0.eq_1, run_unfold cut_Consistent.c1.eq_1, run_unfold cut_Consistent.c2.eq_1, run_unfold cut_Consistent.c3.eq_1, cut_Consistent.k0, cut_Consistent.k1, hj, h0, hw2, h1]
      · rw [h2] at hk
        simp only at hk
        cases h3 : leq l[q].past c.past
        · rw [h3] at hk
          have := hbad (by rw [← hk]; rfl)
          subst this
          simp (maxSteps := 2000000) only [go_sem, ↓reduceIte, Nat.reduceLT, Nat.reduceEqDiff, Nat.reduceLeDiff, Nat.reduceAdd, Nat.reduceSub, Nat.reduceMul, Int.reduceLT, Int.reduceLE, Int.reduceEq, Int.reduceNeg, run_unfold cut_Consistent.c0.eq_1, run_unfold cut_Consistent.c1.eq_1, run_unfold cut_Consistent.c2.eq_1, run_unfold cut_Consistent.c3.eq_1, cut_Consistent.k0, cut_Consistent.k1, hj, h0, hw2, h1, hq, h3]
        · rw [h3, Bool.true_and] at hk
          simp (maxSteps := 2000000) only [go_sem, ↓reduceIte, Nat.reduceLT, Nat.reduceEqDiff, Nat.reduceLeDiff, Nat.reduceAdd, Nat.reduceSub, Nat.reduceMul, Int.reduceLT, Int.reduceLE, Int.reduceEq, Int.reduceNeg, run_unfold cut_Consistent.c0.eq_1, run_unfold cut_Consistent.c1.eq_1, run_unfold cut_Consistent.c2.eq_1, run_unfold cut_Consistent.c3.eq_1, cut_Consistent.k0, cut_Consistent.k1, hj, h0, hw2, h1, hq, h3]
          exact ih hk

theorem cut_Consistent_out {f : SlF} {l : List Com} (hl : Fits l) (hp : ∀ c ∈ l, Fits c.past) : ∀ i, i ≤ l.length →
    Run T (Res [.tmp 2] (.bool ((l.drop i).all fun c => knownL l c.past 0 c.past))) (.inLoop cut_Consistent.b0 :: cut_Consistent.k0) (mkE 60 [(0, coms f l), (3, fmapN (nmap l)), (21, coms f l), (22, .int .i64 l.length), (23, .int .i64 i)]) [] := by
  refine up_ind ?_ fun i hi ih => ?_
  · rw [run_round, run_unfold cut_Consistent.b0.eq_1]
    simp (maxSteps := 2000000) only [go_sem, ↓reduceIte, Nat.reduceLT, Nat.reduceEqDiff, Nat.reduceLeDiff, Nat.reduceAdd, Nat.reduceSub, Nat.reduceMul, Int.reduceLT, Int.reduceLE, Int.reduceEq, Int.reduceNeg, run_unfold cut_Consistent.c0.eq_1, run_unfold cut_Consistent.c1.eq_1, run_unfold cut_Consistent.c2.eq_1, run_unfold cut_Consistent.c3.eq_1, cut_Consistent.k0, cut_Consistent.k1, List.drop_length]
  · rw [run_round, run_unfold cut_Consistent.b0.eq_1]
    rw [List.drop_eq_getElem_cons hi, List.all_cons]
    simp (maxSteps := 2000000) only [go_sem, ↓reduceIte, Nat.reduceLT, Nat.reduceEqDiff, Nat.reduceLeDiff, Nat.reduceAdd, Nat.reduceSub, Nat.reduceMul, Int.reduceLT, Int.reduceLE, Int.reduceEq, Int.reduceNeg, run_unfold cut_Consistent.c0.eq_1, run_unfold cut_Consistent.c1.eq_1, run_unfold cut_Consistent.c2.eq_1, run_unfold cut_Consistent.c3.eq_1, cut_Consistent.k0, cut_Consistent.k1, hi]
    refine cut_Consistent_in (i := i) hl (hp _ (List.getElem_mem hi)) (fun h => ?_) (fun h => ?_) hi 0 (by omega) rfl
    · rw [h, Bool.true_and]; exact ih
    · rw [h, Bool.false_and]

theorem cut_Consistent_spec {f : SlF} {l : List Com} (hl : Fits l) {lv : List Nat} {σ : Sto} {R : Post} : Cw T true i_cut_Consistent [coms f l] lv σ R ↔ R (.bool (consistentP l)) σ := by
  refine cw_intro T_cut_Consistent (by simp only [go_sem]) (by simp) ?_; rw [run_unfold cut_Consistent.main.eq_1]
  unfold consistentP
  have hlen : ∀ {σ : Sto}, lenV .mp (.fmap (keysA (nmap l)) (valsA (nmap l))) σ = some (.int .i64 ((nmap l).length : Nat), σ) := by intro σ; simp [lenV]
  have hany : ∀ {lv : List Nat} {σ : Sto} {R : Post}, Cw T true i_slices_ContainsFunc_Commit [coms f l, .clo (.func i_cut_Consistent_1) [] []] lv σ R ↔ R (.bool (l.any fun c => !wf c)) σ := slices_ContainsFunc_Commit_spec hl (p := fun c => !wf c) cut_Consistent_1_spec
  by_cases h1 : (nmap l).length = l.length
  · have h1' : ((nmap l).length : Int) = (l.length : Int) := by omega
    cases h2 : l.all wf
    · have h3 : (l.any fun c => !wf c) = true := by rw [List.all_eq_not_any_not] at h2; simpa using h2
      simp (maxSteps := 2000000) only [go_sem, ↓reduceIte, Nat.reduceLT, Nat.reduceEqDiff, Nat.reduceLeDiff, Nat.reduceAdd, Nat.reduceSub, Nat.reduceMul, Int.reduceLT, Int.reduceLE, Int.reduceEq, Int.reduceNeg, hl, hlen, h1, h1', callK_of hany, h2, h3]
    · have h3 : (l.any fun c => !wf c) = false := by rw [List.all_eq_not_any_not] at h2; simpa using h2
      simp (maxSteps := 2000000) only [go_sem, ↓reduceIte, Nat.reduceLT, Nat.reduceEqDiff, Nat.reduceLeDiff, Nat.reduceAdd, Nat.reduceSub, Nat.reduceMul, Int.reduceLT, Int.reduceLE, Int.reduceEq, Int.reduceNeg, hl, hlen, h1, h1', callK_of hany, h2, h3]
      refine cut_Consistent_out hl (fun c hc => past_fits (List.all_eq_true.1 h2 c hc)) 0 (by omega)
  · have h1' : ¬ ((nmap l).length : Int) = (l.length : Int) := by omega
    simp (maxSteps := 2000000) only [go_sem, ↓reduceIte, Nat.reduceLT, Nat.reduceEqDiff, Nat.reduceLeDiff, Nat.reduceAdd, Nat.reduceSub, Nat.reduceMul, Int.reduceLT, Int.reduceLE, Int.reduceEq, Int.reduceNeg, hl, hlen, h1, h1']
@[go_sem] theorem cut_Consistent_call {f : SlF} {l : List Com} (hl : Fits l) {Q : Post3} {k : List Item} {os : List AOper} {d : Option Nat} {e : Env} {σ : Sto} : CallK T Q k os d e σ true i_cut_Consistent [coms f l] ↔ Run T Q (.ops os :: k) (put e d (.bool (consistentP l))) σ := cut_Consistent_spec hl


end Go.Abs
/- The abstract machine, run: a program that the kernel can reckon with. -/
namespace Go.Abs
open Go

abbrev CallE := Bool → FuncId → List AVal → Sto → Option (AVal × Sto)

def evOper (cw : CallE) (o : AOper) (e : Env) (σ : Sto) : Option (Env × Sto) :=
  match o.op with
  | .call p f args =>
    match cw p f (args.map (ev e)) σ with
    | some (v, σ') => some (put e o.dst v, σ')
    | none => none
  | .callv p x args =>
    match ev e x with
    | .clo (.func f) first captured =>
      match cw p f (first ++ args.map (ev e) ++ captured) σ with
      | some (v, σ') => some (put e o.dst v, σ')
      | none => none
    | _ => none
  | op =>
    match stepOp [] op e σ with
    | some (v, σ') => some (put e o.dst v, σ')
    | none => none

def evOps (cw : CallE) : List AOper → Env → Sto → Option (Env × Sto)
  | [], e, σ => some (e, σ)
  | o :: os, e, σ =>
    match wantedA o e with
    | some true =>
      match evOper cw o e σ with
      | some (e', σ') => evOps cw os e' σ'
      | none => none
    | some false => evOps cw os (put e o.dst skipped) σ
    | none => none

def evGOps (cw : CallE) : List GOp → Env → Sto → Option (Env × Sto)
  | [], e, σ => some (e, σ)
  | .op o :: os, e, σ =>
    match evOps cw [o] e σ with
    | some (e', σ') => evGOps cw os e' σ'
    | none => none
  | .gh g :: os, e, σ =>
    match ghostA g e σ with
    | some (e', σ') => evGOps cw os e' σ'
    | none => none

def evLoop (body : Env → Sto → Option (AExit × Env × Sto)) : Nat → Env → Sto → Option (AExit × Env × Sto)
  | 0, _, _ => none
  | n + 1, e, σ =>
    match body e σ with
    | some (.normal, e', σ') => evLoop body n e' σ'
    | r => r

def evCode (cw : CallE) (n : Nat) : ACode → Env → Sto → Option (AExit × Env × Sto)
  | .skip, e, σ => some (.normal, e, σ)
  | .region _ ops, e, σ =>
    match evOps cw ops e σ with
    | some (e', σ') => some (.normal, e', σ')
    | none => none
  | .regionG ops, e, σ =>
    match evGOps cw ops e σ with
    | some (e', σ') => some (.normal, e', σ')
    | none => none
  | .regionD s ops, e, σ =>
    match evOps cw ops e σ with
    | some (e', σ') => if sepA s e' = true then some (.normal, e', σ') else none
    | none => none
  | .seq a b, e, σ =>
    match evCode cw n a e σ with
    | some (.normal, e', σ') => evCode cw n b e' σ'
    | r => r
  | .cond c a b, e, σ =>
    match ev e c with
    | .bool true => evCode cw n a e σ
    | .bool false => evCode cw n b e σ
    | _ => none
  | .block id b, e, σ =>
    match evCode cw n b e σ with
    | some (.exit i, e', σ') => if i = id then some (.normal, e', σ') else some (.exit i, e', σ')
    | r => r
  | .loop b, e, σ => evLoop (evCode cw n b) n e σ
  | .scope b, e, σ => evCode cw n b e σ
  | .exit id, e, σ => some (.exit id, e, σ)
  | .ret, e, σ => some (.ret, e, σ)
  | .trunc b, e, σ =>
    match evCode cw n b e σ with
    | some (.ret, e', σ') => some (.ret, e', σ')
    | some (x, e', σ') => if (σ'.take σ.length).all (AObj.under σ.length) = true then some (x, sanitize σ.length e', σ'.take σ.length) else none
    | none => none
  | .ghost g, e, σ =>
    match ghostA g e σ with
    | some (e', σ') => some (.normal, e', σ')
    | none => none

def evCall (T : FuncId → Option AFunc) : Nat → CallE
  | 0, _, _, _, _ => none
  | n + 1, true, f, args, σ =>
    match args.mapM (snapA σ snapDepth), T f with
    | some as, some af =>
      match evCode (evCall T n) n af.code (initEnv af.ntmps as) [] with
      | some (.exit _, _, _) => none
      | some (_, e, σ') =>
        match resultsA af.results e σ' with
        | some v =>
          match snapA σ' snapDepth v with
          | some v' => if AVal.pures args = true ∨ v'.flat = true then some (v', σ) else none
          | none => none
        | none => none
      | none => none
    | _, _ => none
  | n + 1, false, f, args, σ =>
    match T f with
    | some af =>
      match evCode (evCall T n) n af.code (initEnv af.ntmps args) σ with
      | some (.exit _, _, _) => none
      | some (_, e, σ') =>
        match resultsA af.results e σ' with
        | some v => some (v, σ')
        | none => none
      | none => none
    | none => none

def Snd (cw : CallW) (ce : CallE) : Prop := ∀ (p : Bool) (f : FuncId) (args : List AVal) (σ : Sto) (v : AVal) (σ' : Sto), ce p f args σ = some (v, σ') → ∀ Q : Post, Q v σ' → cw p f args [] σ Q

theorem evOper_sound {cw : CallW} {ce : CallE} (hS : Snd cw ce) {o : AOper} {e : Env} {σ : Sto} {e' : Env} {σ' : Sto} (h : evOper ce o e σ = some (e', σ')) {K : Env → Sto → Prop} (hK : K e' σ') : wpOper cw [] o e σ K := by
  obtain ⟨dst, op, g, a, r⟩ := o
  cases op <;> simp only [evOper, wpOper] at h ⊢
  case call p f args =>
    split at h
    · rename_i v τ hc
      obtain ⟨rfl, rfl⟩ := Prod.mk.inj (Option.some.inj h)
      exact hS _ _ _ _ _ _ hc (fun v σ' => K (put e dst v) σ') hK
    · simp at h
  case callv p x args =>
    cases hx : ev e x <;> rw [hx] at h <;> try (simp at h; done)
    rename_i f first captured
    cases f <;> try (simp at h; done)
    rename_i f
    simp only at h ⊢
    split at h
    · rename_i v τ hc
      obtain ⟨rfl, rfl⟩ := Prod.mk.inj (Option.some.inj h)
      exact hS _ _ _ _ _ _ hc (fun v σ' => K (put e dst v) σ') hK
    · simp at h
  all_goals
    generalize stepOp [] _ e σ = q at h ⊢
    cases q with
    | none => simp at h
    | some q =>
      obtain ⟨v, τ⟩ := q
      obtain ⟨rfl, rfl⟩ := Prod.mk.inj (Option.some.inj h)
      exact hK

theorem evOps_sound {cw : CallW} {ce : CallE} (hS : Snd cw ce) : ∀ (os : List AOper) {e : Env} {σ : Sto} {e' : Env} {σ' : Sto}, evOps ce os e σ = some (e', σ') → ∀ {K : Env → Sto → Prop}, K e' σ' → wpOpsA cw [] os e σ K
  | [], e, σ, e', σ', h, K, hK => by
    obtain ⟨rfl, rfl⟩ := Prod.mk.inj (Option.some.inj h); exact hK
  | o :: os, e, σ, e', σ', h, K, hK => by
    simp only [evOps] at h
    simp only [wpOpsA]
    cases hw : wantedA o e with
    | none => rw [hw] at h; simp at h
    | some b =>
      rw [hw] at h
      cases b <;> simp only at h ⊢
      · exact evOps_sound hS os h hK
      · split at h
        · rename_i e1 σ1 h1
          exact evOper_sound hS h1 (K := fun e' σ' => wpOpsA cw [] os e' σ' K) (evOps_sound hS os h hK)
        · simp at h

theorem evGOps_sound {cw : CallW} {ce : CallE} (hS : Snd cw ce) : ∀ (os : List GOp) {e : Env} {σ : Sto} {e' : Env} {σ' : Sto}, evGOps ce os e σ = some (e', σ') → ∀ {K : Env → Sto → Prop}, K e' σ' → wpGOps cw [] os e σ K
  | [], e, σ, e', σ', h, K, hK => by
    obtain ⟨rfl, rfl⟩ := Prod.mk.inj (Option.some.inj h); exact hK
  | .op o :: os, e, σ, e', σ', h, K, hK => by
    simp only [evGOps] at h
    simp only [wpGOps]
    split at h
    · rename_i e1 σ1 h1
      exact evOps_sound hS _ h1 (K := fun e' σ' => wpGOps cw [] os e' σ' K) (evGOps_sound hS os h hK)
    · simp at h
  | .gh g :: os, e, σ, e', σ', h, K, hK => by
    simp only [evGOps] at h
    simp only [wpGOps]
    cases hg : ghostA g e σ with
    | none => rw [hg] at h; simp at h
    | some p =>
      obtain ⟨e1, σ1⟩ := p
      rw [hg] at h
      exact evGOps_sound hS os h hK

theorem evLoop_sound {body : Env → Sto → Post3 → Prop} {b : Env → Sto → Option (AExit × Env × Sto)} (hb : ∀ (e : Env) (σ : Sto) (x : AExit) (e' : Env) (σ' : Sto), b e σ = some (x, e', σ') → ∀ Q : Post3, Q x e' σ' → body e σ Q) :
    ∀ (n : Nat) {e : Env} {σ : Sto} {x : AExit} {e' : Env} {σ' : Sto}, evLoop b n e σ = some (x, e', σ') → ∀ {Q : Post3}, Q x e' σ' → loopA body n e σ Q
  | 0, _, _, _, _, _, h, _, _ => by simp [evLoop] at h
  | n + 1, e, σ, x, e', σ', h, Q, hQ => by
    simp only [evLoop] at h
    simp only [loopA]
    cases hbe : b e σ with
    | none => rw [hbe] at h; simp at h
    | some r =>
      obtain ⟨y, e1, σ1⟩ := r
      rw [hbe] at h
      refine hb _ _ _ _ _ hbe _ ?_
      cases y <;> simp only at h
      case normal => exact evLoop_sound hb n h hQ
      all_goals
        obtain ⟨rfl, k⟩ := Prod.mk.inj (Option.some.inj h)
        obtain ⟨rfl, rfl⟩ := Prod.mk.inj k
        exact hQ

theorem evCode_sound {cw : CallW} {ce : CallE} (hS : Snd cw ce) {n : Nat} : ∀ (c : ACode) {e : Env} {σ : Sto} {x : AExit} {e' : Env} {σ' : Sto}, evCode ce n c e σ = some (x, e', σ') → ∀ {Q : Post3}, Q x e' σ' → wpCode cw n [] c e σ Q := by
  have triple : ∀ {x y : AExit} {e e' : Env} {σ σ' : Sto}, some (x, e, σ) = some (y, e', σ') → x = y ∧ e = e' ∧ σ = σ' := by
    intro x y e e' σ σ' h
    have k := Option.some.inj h
    injection k with k1 k2
    injection k2 with k2 k3
    exact ⟨k1, k2, k3⟩
  intro c
  induction c with
  | skip => intro e σ x e' σ' h Q hQ; obtain ⟨rfl, rfl, rfl⟩ := triple h; exact hQ
  | region d ops =>
    intro e σ x e' σ' h Q hQ
    simp only [evCode] at h
    simp only [wpCode]
    split at h
    · rename_i e1 σ1 h1
      obtain ⟨rfl, rfl, rfl⟩ := triple h
      exact evOps_sound hS ops h1 hQ
    · simp at h
  | regionG ops =>
    intro e σ x e' σ' h Q hQ
    simp only [evCode] at h
    simp only [wpCode]
    split at h
    · rename_i e1 σ1 h1
      obtain ⟨rfl, rfl, rfl⟩ := triple h
      exact evGOps_sound hS ops h1 hQ
    · simp at h
  | regionD s ops =>
    intro e σ x e' σ' h Q hQ
    simp only [evCode] at h
    simp only [wpCode]
    split at h
    · rename_i e1 σ1 h1
      split at h
      · rename_i hs
        obtain ⟨rfl, rfl, rfl⟩ := triple h
        exact evOps_sound hS ops h1 ⟨hs, hQ⟩
      · simp at h
    · simp at h
  | seq a b iha ihb =>
    intro e σ x e' σ' h Q hQ
    simp only [evCode] at h
    simp only [wpCode]
    cases ha : evCode ce n a e σ with
    | none => rw [ha] at h; simp at h
    | some r =>
      obtain ⟨y, e1, σ1⟩ := r
      rw [ha] at h
      refine iha ha ?_
      cases y <;> simp only at h ⊢
      case normal => exact ihb h hQ
      case exit i => obtain ⟨rfl, rfl, rfl⟩ := triple h; exact hQ
      case ret => obtain ⟨rfl, rfl, rfl⟩ := triple h; exact hQ
  | cond c a b iha ihb =>
    intro e σ x e' σ' h Q hQ
    simp only [evCode] at h
    simp only [wpCode]
    cases hc : ev e c <;> rw [hc] at h <;> try (simp at h; done)
    rename_i t
    cases t <;> simp only at h ⊢
    · exact ihb h hQ
    · exact iha h hQ
  | block id b ih =>
    intro e σ x e' σ' h Q hQ
    simp only [evCode] at h
    simp only [wpCode]
    cases hb : evCode ce n b e σ with
    | none => rw [hb] at h; simp at h
    | some r =>
      obtain ⟨y, e1, σ1⟩ := r
      rw [hb] at h
      refine ih hb ?_
      cases y <;> simp only at h ⊢
      case normal => obtain ⟨rfl, rfl, rfl⟩ := triple h; exact hQ
      case exit i =>
        split at h
        · rename_i hi; obtain ⟨rfl, rfl, rfl⟩ := triple h; rw [if_pos hi]; exact hQ
        · rename_i hi; obtain ⟨rfl, rfl, rfl⟩ := triple h; rw [if_neg hi]; exact hQ
      case ret => obtain ⟨rfl, rfl, rfl⟩ := triple h; exact hQ
  | loop b ih =>
    intro e σ x e' σ' h Q hQ
    simp only [evCode] at h
    simp only [wpCode]
    exact evLoop_sound (body := wpCode cw n [] b) (fun _ _ _ _ _ h _ hq => ih h hq) n h hQ
  | scope b ih => intro e σ x e' σ' h Q hQ; simp only [evCode] at h; simp only [wpCode]; exact ih h hQ
  | exit id => intro e σ x e' σ' h Q hQ; obtain ⟨rfl, rfl, rfl⟩ := triple h; exact hQ
  | ret => intro e σ x e' σ' h Q hQ; obtain ⟨rfl, rfl, rfl⟩ := triple h; exact hQ
  | trunc b ih =>
    intro e σ x e' σ' h Q hQ
    simp only [evCode] at h
    simp only [wpCode]
    cases hb : evCode ce n b e σ with
    | none => rw [hb] at h; simp at h
    | some r =>
      obtain ⟨y, e1, σ1⟩ := r
      rw [hb] at h
      refine ih hb ?_
      cases y <;> simp only at h ⊢
      case ret => obtain ⟨rfl, rfl, rfl⟩ := triple h; exact hQ
      case normal =>
        split at h
        · rename_i hu; obtain ⟨rfl, rfl, rfl⟩ := triple h; exact ⟨hu, hQ⟩
        · simp at h
      case exit i =>
        split at h
        · rename_i hu; obtain ⟨rfl, rfl, rfl⟩ := triple h; exact ⟨hu, hQ⟩
        · simp at h
  | ghost g =>
    intro e σ x e' σ' h Q hQ
    simp only [evCode] at h
    simp only [wpCode]
    split at h
    · rename_i e1 σ1 h1
      obtain ⟨rfl, rfl, rfl⟩ := triple h
      split
      · rename_i h2; rw [h1] at h2; obtain ⟨rfl, rfl⟩ := Prod.mk.inj (Option.some.inj h2); exact hQ
      · rename_i h2; rw [h1] at h2; simp at h2
    · simp at h

theorem evCall_sound (T : FuncId → Option AFunc) : ∀ n, Snd (callW T n) (evCall T n)
  | 0 => fun _ _ _ _ _ _ h => by simp [evCall] at h
  | n + 1 => by
    have ih := evCall_sound T n
    have pair : ∀ {v v' : AVal} {σ σ' : Sto}, some (v, σ) = some (v', σ') → v = v' ∧ σ = σ' := fun h => Prod.mk.inj (Option.some.inj h)
    intro p f args σ v σ' h Q hQ
    cases p with
    | true =>
      simp only [evCall] at h
      simp only [callW]
      split at h
      case h_2 => simp at h
      rename_i as af h1 h2
      split at h
      case h_1 => simp at h
      case h_3 => simp at h
      rename_i x e1 σ1 hnx hc
      split at h
      case h_2 => simp at h
      rename_i u hu
      split at h
      case h_2 => simp at h
      rename_i u' hu'
      split at h
      case isFalse => simp at h
      rename_i hor
      obtain ⟨rfl, rfl⟩ := pair h
      simp only [h1, h2]
      refine evCode_sound ih _ hc ?_
      cases x with
      | exit i => exact (hnx i rfl).elim
      | normal => simp only [retA, hu, hu']; exact ⟨hor, hQ⟩
      | ret => simp only [retA, hu, hu']; exact ⟨hor, hQ⟩
    | false =>
      simp only [evCall] at h
      simp only [callW]
      split at h
      case h_2 => simp at h
      rename_i af h2
      split at h
      case h_1 => simp at h
      case h_3 => simp at h
      rename_i x e1 σ1 hnx hc
      split at h
      case h_2 => simp at h
      rename_i u hu
      obtain ⟨rfl, rfl⟩ := pair h
      simp only [h2]
      refine evCode_sound ih _ hc ?_
      cases x with
      | exit i => exact (hnx i rfl).elim
      | normal => simp only [retA, hu]; exact hQ
      | ret => simp only [retA, hu]; exact hQ

/-- the call answers 'true' -/
def saysTrue (T : FuncId → Option AFunc) (n : Nat) (f : FuncId) (args : List AVal) : Bool := match evCall T n true f args [] with
  | some (.bool true, _) => true
  | _ => false

theorem evCall_pure {T : FuncId → Option AFunc} {n : Nat} {f : FuncId} {args : List AVal} {σ σ' : Sto} {v : AVal} (h : evCall T n true f args σ = some (v, σ')) : σ' = σ := by
  cases n with
  | zero => simp [evCall] at h
  | succ n =>
    simp only [evCall] at h
    repeat' split at h
    all_goals first
      | (simp at h; done)
      | exact (Prod.mk.inj (Option.some.inj h)).2.symm

end Go.Abs
