/- Walks of chapter 20: commits. -/
import Derived.Test.YtaiibojjndeipaaC20A
set_option linter.all false
set_option linter.unusedSimpArgs false
set_option linter.unusedVariables false
namespace Go.Abs
open Go

structure Nam where
  st : Int
  seq : Int
  deriving DecidableEq
abbrev encN (n : Nam) : AVal := .agg [.int .i64 n.st, .int .i64 n.seq]

/-- a commit; what is in its operations is left open -/
structure Com where
  st : Int
  seq : Int
  pf : SlF
  past : List Int
  ver : Int
  ops : AVal
  h1 : ops.one = true
  h2 : ops.pure = true
def Com.nam (c : Com) : Nam := ⟨c.st, c.seq⟩
abbrev encC (c : Com) : AVal := .agg [.int .i64 c.st, .int .i64 c.seq, ints c.pf c.past, .int .i64 c.ver, c.ops]

@[go_sem] theorem Com.one (c : Com) : c.ops.one = true := c.h1
theorem names_pure {p : Nat → Bool} : ∀ (v : AVal), v.pure = true → v.names p = true := by
  intro v
  refine AVal.rec (motive_1 := fun v => v.names (fun _ => false) = true → v.names p = true) (motive_2 := fun vs => AVal.namesL (fun _ => false) vs = true → AVal.namesL p vs = true)
    ?_ ?_ ?_ ?_ ?_ ?_ ?_ ?_ ?_ ?_ ?_ ?_ ?_ ?_ ?_ ?_ ?_ ?_ ?_ ?_ ?_ ?_ v <;> intros <;> simp_all [AVal.names, AVal.namesL]
@[go_sem] theorem Com.names (c : Com) (p : Nat → Bool) : c.ops.names p = true := names_pure _ c.h2
@[go_sem] theorem Com.cells (c : Com) : c.ops.cells = [c.ops] := by
  have := c.h1
  cases h : c.ops <;> simp [h, AVal.one] at this <;> rfl

def has (c : List Int) (n : Nam) : Bool := valid c && decide (0 ≤ n.st) && decide (n.st < 6) && decide (1 ≤ n.seq) && decide (n.seq ≤ c.getD n.st.toNat 0)

theorem getD_of {c : List Int} {i : Int} (hl : c.length = 6) (h0 : 0 ≤ i) (h1 : i < 6) : ∃ h : i.toNat < c.length, c.getD i.toNat 0 = c[i.toNat] := by
  have h : i.toNat < c.length := by omega
  exact ⟨h, by rw [List.getD_eq_getElem?_getD, List.getElem?_eq_getElem h]; rfl⟩

theorem cut_Has_spec {f : SlF} {c : List Int} {st seq : Int} {lv : List Nat} {σ : Sto} {R : Post} : Cw T true i_cut_Has [ints f c, .agg [.int .i64 st, .int .i64 seq]] lv σ R ↔ R (.bool (has c ⟨st, seq⟩)) σ := by
  refine cw_intro T_cut_Has (by simp only [go_sem]) (by simp) ?_; rw [run_unfold cut_Has.main.eq_1]
  unfold has
  cases hv : valid c
  case false => simp (maxSteps := 2000000) only [go_sem, ↓reduceIte, Nat.reduceLT, Nat.reduceEqDiff, Nat.reduceLeDiff, Nat.reduceAdd, Nat.reduceSub, Nat.reduceMul, Int.reduceLT, Int.reduceLE, Int.reduceEq, Int.reduceNeg, hv]
  by_cases h1 : 0 ≤ st
  case neg => simp (maxSteps := 2000000) only [go_sem, ↓reduceIte, Nat.reduceLT, Nat.reduceEqDiff, Nat.reduceLeDiff, Nat.reduceAdd, Nat.reduceSub, Nat.reduceMul, Int.reduceLT, Int.reduceLE, Int.reduceEq, Int.reduceNeg, h1, hv]
  by_cases h2 : st < 6
  case neg => simp (maxSteps := 2000000) only [go_sem, ↓reduceIte, Nat.reduceLT, Nat.reduceEqDiff, Nat.reduceLeDiff, Nat.reduceAdd, Nat.reduceSub, Nat.reduceMul, Int.reduceLT, Int.reduceLE, Int.reduceEq, Int.reduceNeg, h2, hv, h1]
  by_cases h3 : 1 ≤ seq
  case neg => simp (maxSteps := 2000000) only [go_sem, ↓reduceIte, Nat.reduceLT, Nat.reduceEqDiff, Nat.reduceLeDiff, Nat.reduceAdd, Nat.reduceSub, Nat.reduceMul, Int.reduceLT, Int.reduceLE, Int.reduceEq, Int.reduceNeg, h3, hv, h1, h2]
  obtain ⟨hi, hg⟩ := getD_of (valid_len hv) h1 h2
  simp (maxSteps := 2000000) only [go_sem, ↓reduceIte, Nat.reduceLT, Nat.reduceEqDiff, Nat.reduceLeDiff, Nat.reduceAdd, Nat.reduceSub, Nat.reduceMul, Int.reduceLT, Int.reduceLE, Int.reduceEq, Int.reduceNeg, hv, h1, h2, h3, iaddrV_int h1 hi, hg]
@[go_sem] theorem cut_Has_call {f : SlF} {c : List Int} {st seq : Int} {Q : Post3} {k : List Item} {os : List AOper} {d : Option Nat} {e : Env} {σ : Sto} : CallK T Q k os d e σ true i_cut_Has [ints f c, .agg [.int .i64 st, .int .i64 seq]] ↔ Run T Q (.ops os :: k) (put e d (.bool (has c ⟨st, seq⟩))) σ := cut_Has_spec


theorem r20_Has_spec {f : SlF} {c : List Int} {st seq : Int} {lv : List Nat} {σ : Sto} {R : Post} : Cw T true i_r20_Has [ints f c, .agg [.int .i64 st, .int .i64 seq]] lv σ R ↔ R (.bool (has c ⟨st, seq⟩)) σ := by
  refine cw_intro T_r20_Has (by simp only [go_sem]) (by simp) ?_; rw [run_unfold r20_Has.main.eq_1]
  unfold has
  cases hv : valid c
  case false => simp (maxSteps := 2000000) only [go_sem, ↓reduceIte, Nat.reduceLT, Nat.reduceEqDiff, Nat.reduceLeDiff, Nat.reduceAdd, Nat.reduceSub, Nat.reduceMul, Int.reduceLT, Int.reduceLE, Int.reduceEq, Int.reduceNeg, hv]
  by_cases h1 : 0 ≤ st
  case neg => simp (maxSteps := 2000000) only [go_sem, ↓reduceIte, Nat.reduceLT, Nat.reduceEqDiff, Nat.reduceLeDiff, Nat.reduceAdd, Nat.reduceSub, Nat.reduceMul, Int.reduceLT, Int.reduceLE, Int.reduceEq, Int.reduceNeg, h1, hv]
  by_cases h2 : st < 6
  case neg => simp (maxSteps := 2000000) only [go_sem, ↓reduceIte, Nat.reduceLT, Nat.reduceEqDiff, Nat.reduceLeDiff, Nat.reduceAdd, Nat.reduceSub, Nat.reduceMul, Int.reduceLT, Int.reduceLE, Int.reduceEq, Int.reduceNeg, h2, hv, h1]
  by_cases h3 : 1 ≤ seq
  case neg => simp (maxSteps := 2000000) only [go_sem, ↓reduceIte, Nat.reduceLT, Nat.reduceEqDiff, Nat.reduceLeDiff, Nat.reduceAdd, Nat.reduceSub, Nat.reduceMul, Int.reduceLT, Int.reduceLE, Int.reduceEq, Int.reduceNeg, h3, hv, h1, h2]
  obtain ⟨hi, hg⟩ := getD_of (valid_len hv) h1 h2
  simp (maxSteps := 2000000) only [go_sem, ↓reduceIte, Nat.reduceLT, Nat.reduceEqDiff, Nat.reduceLeDiff, Nat.reduceAdd, Nat.reduceSub, Nat.reduceMul, Int.reduceLT, Int.reduceLE, Int.reduceEq, Int.reduceNeg, hv, h1, h2, h3, iaddrV_int h1 hi, hg]
@[go_sem] theorem r20_Has_call {f : SlF} {c : List Int} {st seq : Int} {Q : Post3} {k : List Item} {os : List AOper} {d : Option Nat} {e : Env} {σ : Sto} : CallK T Q k os d e σ true i_r20_Has [ints f c, .agg [.int .i64 st, .int .i64 seq]] ↔ Run T Q (.ops os :: k) (put e d (.bool (has c ⟨st, seq⟩))) σ := r20_Has_spec


def wf (c : Com) : Bool := decide (0 ≤ c.st) && decide (c.st < 6) && decide (1 ≤ c.seq) && decide (c.seq ≤ 999) && valid c.past && decide (c.past.getD c.st.toNat 0 = c.seq - 1)

theorem cut_WellFormed_spec {c : Com} {lv : List Nat} {σ : Sto} {R : Post} : Cw T true i_cut_WellFormed [encC c] lv σ R ↔ R (.bool (wf c)) σ := by
  refine cw_intro T_cut_WellFormed (by simp only [go_sem]) (by simp) ?_; rw [run_unfold cut_WellFormed.main.eq_1]
  unfold wf
  by_cases h1 : 0 ≤ c.st
  case neg => simp (maxSteps := 2000000) only [go_sem, ↓reduceIte, Nat.reduceLT, Nat.reduceEqDiff, Nat.reduceLeDiff, Nat.reduceAdd, Nat.reduceSub, Nat.reduceMul, Int.reduceLT, Int.reduceLE, Int.reduceEq, Int.reduceNeg, h1]
  by_cases h2 : c.st < 6
  case neg => simp (maxSteps := 2000000) only [go_sem, ↓reduceIte, Nat.reduceLT, Nat.reduceEqDiff, Nat.reduceLeDiff, Nat.reduceAdd, Nat.reduceSub, Nat.reduceMul, Int.reduceLT, Int.reduceLE, Int.reduceEq, Int.reduceNeg, h2, h1]
  by_cases h3 : 1 ≤ c.seq
  case neg => simp (maxSteps := 2000000) only [go_sem, ↓reduceIte, Nat.reduceLT, Nat.reduceEqDiff, Nat.reduceLeDiff, Nat.reduceAdd, Nat.reduceSub, Nat.reduceMul, Int.reduceLT, Int.reduceLE, Int.reduceEq, Int.reduceNeg, h3, h1, h2]
  by_cases h4 : c.seq ≤ 999
  case neg => simp (maxSteps := 2000000) only [go_sem, ↓reduceIte, Nat.reduceLT, Nat.reduceEqDiff, Nat.reduceLeDiff, Nat.reduceAdd, Nat.reduceSub, Nat.reduceMul, Int.reduceLT, Int.reduceLE, Int.reduceEq, Int.reduceNeg, h4, h1, h2, h3]
  cases hv : valid c.past
  case false => simp (maxSteps := 2000000) only [go_sem, ↓reduceIte, Nat.reduceLT, Nat.reduceEqDiff, Nat.reduceLeDiff, Nat.reduceAdd, Nat.reduceSub, Nat.reduceMul, Int.reduceLT, Int.reduceLE, Int.reduceEq, Int.reduceNeg, hv, h1, h2, h3, h4]
  obtain ⟨hi, hg⟩ := getD_of (valid_len hv) h1 h2
  simp (maxSteps := 2000000) only [go_sem, ↓reduceIte, Nat.reduceLT, Nat.reduceEqDiff, Nat.reduceLeDiff, Nat.reduceAdd, Nat.reduceSub, Nat.reduceMul, Int.reduceLT, Int.reduceLE, Int.reduceEq, Int.reduceNeg, hv, h1, h2, h3, h4, iaddrV_int h1 hi, hg, wrap_i64 (show -9223372036854775808 ≤ c.seq - 1 by omega) (show c.seq - 1 < 9223372036854775808 by omega)]
@[go_sem] theorem cut_WellFormed_call {c : Com} {Q : Post3} {k : List Item} {os : List AOper} {d : Option Nat} {e : Env} {σ : Sto} : CallK T Q k os d e σ true i_cut_WellFormed [encC c] ↔ Run T Q (.ops os :: k) (put e d (.bool (wf c))) σ := cut_WellFormed_spec


theorem r20_WellFormed_spec {c : Com} {lv : List Nat} {σ : Sto} {R : Post} : Cw T true i_r20_WellFormed [encC c] lv σ R ↔ R (.bool (wf c)) σ := by
  refine cw_intro T_r20_WellFormed (by simp only [go_sem]) (by simp) ?_; rw [run_unfold r20_WellFormed.main.eq_1]
  unfold wf
  by_cases h1 : 0 ≤ c.st
  case neg => simp (maxSteps := 2000000) only [go_sem, ↓reduceIte, Nat.reduceLT, Nat.reduceEqDiff, Nat.reduceLeDiff, Nat.reduceAdd, Nat.reduceSub, Nat.reduceMul, Int.reduceLT, Int.reduceLE, Int.reduceEq, Int.reduceNeg, h1]
  by_cases h2 : c.st < 6
  case neg => simp (maxSteps := 2000000) only [go_sem, ↓reduceIte, Nat.reduceLT, Nat.reduceEqDiff, Nat.reduceLeDiff, Nat.reduceAdd, Nat.reduceSub, Nat.reduceMul, Int.reduceLT, Int.reduceLE, Int.reduceEq, Int.reduceNeg, h2, h1]
  by_cases h3 : 1 ≤ c.seq
  case neg => simp (maxSteps := 2000000) only [go_sem, ↓reduceIte, Nat.reduceLT, Nat.reduceEqDiff, Nat.reduceLeDiff, Nat.reduceAdd, Nat.reduceSub, Nat.reduceMul, Int.reduceLT, Int.reduceLE, Int.reduceEq, Int.reduceNeg, h3, h1, h2]
  by_cases h4 : c.seq ≤ 999
  case neg => simp (maxSteps := 2000000) only [go_sem, ↓reduceIte, Nat.reduceLT, Nat.reduceEqDiff, Nat.reduceLeDiff, Nat.reduceAdd, Nat.reduceSub, Nat.reduceMul, Int.reduceLT, Int.reduceLE, Int.reduceEq, Int.reduceNeg, h4, h1, h2, h3]
  cases hv : valid c.past
  case false => simp (maxSteps := 2000000) only [go_sem, ↓reduceIte, Nat.reduceLT, Nat.reduceEqDiff, Nat.reduceLeDiff, Nat.reduceAdd, Nat.reduceSub, Nat.reduceMul, Int.reduceLT, Int.reduceLE, Int.reduceEq, Int.reduceNeg, hv, h1, h2, h3, h4]
  obtain ⟨hi, hg⟩ := getD_of (valid_len hv) h1 h2
  simp (maxSteps := 2000000) only [go_sem, ↓reduceIte, Nat.reduceLT, Nat.reduceEqDiff, Nat.reduceLeDiff, Nat.reduceAdd, Nat.reduceSub, Nat.reduceMul, Int.reduceLT, Int.reduceLE, Int.reduceEq, Int.reduceNeg, hv, h1, h2, h3, h4, iaddrV_int h1 hi, hg, wrap_i64 (show -9223372036854775808 ≤ c.seq - 1 by omega) (show c.seq - 1 < 9223372036854775808 by omega)]
@[go_sem] theorem r20_WellFormed_call {c : Com} {Q : Post3} {k : List Item} {os : List AOper} {d : Option Nat} {e : Env} {σ : Sto} : CallK T Q k os d e σ true i_r20_WellFormed [encC c] ↔ Run T Q (.ops os :: k) (put e d (.bool (wf c))) σ := r20_WellFormed_spec


theorem wf_parts {c : Com} (h : wf c = true) : 0 ≤ c.st ∧ c.st < 6 ∧ 1 ≤ c.seq ∧ c.seq ≤ 999 ∧ valid c.past = true ∧ c.past.getD c.st.toNat 0 = c.seq - 1 := by
  simp only [wf, Bool.and_eq_true, decide_eq_true_eq] at h
  obtain ⟨⟨⟨⟨⟨a, b⟩, c⟩, d⟩, e⟩, f⟩ := h
  exact ⟨a, b, c, d, e, f⟩

def sees (c a : Com) : Bool := wf c && wf a && decide (a.seq ≤ c.past.getD a.st.toNat 0)

theorem cut_Sees_spec {c a : Com} {lv : List Nat} {σ : Sto} {R : Post} : Cw T true i_cut_Sees [encC c, encC a] lv σ R ↔ R (.bool (sees c a)) σ := by
  refine cw_intro T_cut_Sees (by simp only [go_sem]) (by simp) ?_; rw [run_unfold cut_Sees.main.eq_1]
  unfold sees
  cases h1 : wf c
  case false => simp (maxSteps := 2000000) only [go_sem, ↓reduceIte, Nat.reduceLT, Nat.reduceEqDiff, Nat.reduceLeDiff, Nat.reduceAdd, Nat.reduceSub, Nat.reduceMul, Int.reduceLT, Int.reduceLE, Int.reduceEq, Int.reduceNeg, h1]
  cases h2 : wf a
  case false => simp (maxSteps := 2000000) only [go_sem, ↓reduceIte, Nat.reduceLT, Nat.reduceEqDiff, Nat.reduceLeDiff, Nat.reduceAdd, Nat.reduceSub, Nat.reduceMul, Int.reduceLT, Int.reduceLE, Int.reduceEq, Int.reduceNeg, h2, h1]
  obtain ⟨p1, p2, _⟩ := wf_parts h2
  obtain ⟨_, _, _, _, q, _⟩ := wf_parts h1
  obtain ⟨hi, hg⟩ := getD_of (valid_len q) p1 p2
  simp (maxSteps := 2000000) only [go_sem, ↓reduceIte, Nat.reduceLT, Nat.reduceEqDiff, Nat.reduceLeDiff, Nat.reduceAdd, Nat.reduceSub, Nat.reduceMul, Int.reduceLT, Int.reduceLE, Int.reduceEq, Int.reduceNeg, h1, h2, iaddrV_int p1 hi, hg]
@[go_sem] theorem cut_Sees_call {c a : Com} {Q : Post3} {k : List Item} {os : List AOper} {d : Option Nat} {e : Env} {σ : Sto} : CallK T Q k os d e σ true i_cut_Sees [encC c, encC a] ↔ Run T Q (.ops os :: k) (put e d (.bool (sees c a))) σ := cut_Sees_spec


theorem r20_Sees_spec {c a : Com} {lv : List Nat} {σ : Sto} {R : Post} : Cw T true i_r20_Sees [encC c, encC a] lv σ R ↔ R (.bool (sees c a)) σ := by
  refine cw_intro T_r20_Sees (by simp only [go_sem]) (by simp) ?_; rw [run_unfold r20_Sees.main.eq_1]
  unfold sees
  cases h1 : wf c
  case false => simp (maxSteps := 2000000) only [go_sem, ↓reduceIte, Nat.reduceLT, Nat.reduceEqDiff, Nat.reduceLeDiff, Nat.reduceAdd, Nat.reduceSub, Nat.reduceMul, Int.reduceLT, Int.reduceLE, Int.reduceEq, Int.reduceNeg, h1]
  cases h2 : wf a
  case false => simp (maxSteps := 2000000) only [go_sem, ↓reduceIte, Nat.reduceLT, Nat.reduceEqDiff, Nat.reduceLeDiff, Nat.reduceAdd, Nat.reduceSub, Nat.reduceMul, Int.reduceLT, Int.reduceLE, Int.reduceEq, Int.reduceNeg, h2, h1]
  obtain ⟨p1, p2, _⟩ := wf_parts h2
  obtain ⟨_, _, _, _, q, _⟩ := wf_parts h1
  obtain ⟨hi, hg⟩ := getD_of (valid_len q) p1 p2
  simp (maxSteps := 2000000) only [go_sem, ↓reduceIte, Nat.reduceLT, Nat.reduceEqDiff, Nat.reduceLeDiff, Nat.reduceAdd, Nat.reduceSub, Nat.reduceMul, Int.reduceLT, Int.reduceLE, Int.reduceEq, Int.reduceNeg, h1, h2, iaddrV_int p1 hi, hg]
@[go_sem] theorem r20_Sees_call {c a : Com} {Q : Post3} {k : List Item} {os : List AOper} {d : Option Nat} {e : Env} {σ : Sto} : CallK T Q k os d e σ true i_r20_Sees [encC c, encC a] ↔ Run T Q (.ops os :: k) (put e d (.bool (sees c a))) σ := r20_Sees_spec


/-- sums that wrap, as Go's do -/
def addW (a b : Int) : Int := IntKind.i64.wrap (a + b)
def sumW (l : List Int) : Int := l.foldl addW 0

theorem r20_Weight_loop {c : Com} (hc : Fits c.past) : ∀ i, i ≤ c.past.length → ∀ n : Int,
    Run T (Res [.tmp 2] (.int .i64 ((c.past.drop i).foldl addW n))) (.inLoop r20_Weight.b0 :: r20_Weight.k0) (mkE 20 [(1, .ptr 0 5 0), (3, .int .i64 n), (4, .int .i64 i)]) [.cells false (encC c).cells] := by
  refine up_ind ?_ fun i hi ih n => ?_
  · intro n
    rw [run_round, run_unfold r20_Weight.b0.eq_1]
    simp (maxSteps := 2000000) only [go_sem, ↓reduceIte, Nat.reduceLT, Nat.reduceEqDiff, Nat.reduceLeDiff, Nat.reduceAdd, Nat.reduceSub, Nat.reduceMul, Int.reduceLT, Int.reduceLE, Int.reduceEq, Int.reduceNeg, run_unfold r20_Weight.c0.eq_1, r20_Weight.k0, List.drop_length, List.foldl_nil]
  · rw [run_round, run_unfold r20_Weight.b0.eq_1]
    rw [List.drop_eq_getElem_cons hi]
    simp (maxSteps := 2000000) only [go_sem, ↓reduceIte, Nat.reduceLT, Nat.reduceEqDiff, Nat.reduceLeDiff, Nat.reduceAdd, Nat.reduceSub, Nat.reduceMul, Int.reduceLT, Int.reduceLE, Int.reduceEq, Int.reduceNeg, hi, List.foldl_cons, wrap_succ (show i < 9223372036854775807 by omega)]
    exact ih _

theorem r20_Weight_spec {c : Com} (hc : Fits c.past) {lv : List Nat} {σ : Sto} {R : Post} : Cw T true i_r20_Weight [encC c] lv σ R ↔ R (.int .i64 (sumW c.past)) σ := by
  refine cw_intro T_r20_Weight (by simp only [go_sem]) (by simp) ?_; rw [run_unfold r20_Weight.main.eq_1]
  simp (maxSteps := 2000000) only [go_sem, ↓reduceIte, Nat.reduceLT, Nat.reduceEqDiff, Nat.reduceLeDiff, Nat.reduceAdd, Nat.reduceSub, Nat.reduceMul, Int.reduceLT, Int.reduceLE, Int.reduceEq, Int.reduceNeg]
  exact r20_Weight_loop hc 0 (by omega) 0
@[go_sem] theorem r20_Weight_call {c : Com} (hc : Fits c.past) {Q : Post3} {k : List Item} {os : List AOper} {d : Option Nat} {e : Env} {σ : Sto} : CallK T Q k os d e σ true i_r20_Weight [encC c] ↔ Run T Q (.ops os :: k) (put e d (.int .i64 (sumW c.past))) σ := r20_Weight_spec hc


theorem cut_weight_loop {f : SlF} {l : List Int} {σ : Sto} (hc : Fits l) : ∀ i, i ≤ l.length → ∀ n : Int,
    Run T (Res [.tmp 2] (.int .i64 ((l.drop i).foldl addW n))) (.inLoop cut_weight.b0 :: cut_weight.k0) (mkE 18 [(3, .int .i64 n), (7, ints f l), (8, .int .i64 l.length), (9, .int .i64 i)]) σ := by
  refine up_ind ?_ fun i hi ih n => ?_
  · intro n
    rw [run_round, run_unfold cut_weight.b0.eq_1]
    simp (maxSteps := 2000000) only [go_sem, ↓reduceIte, Nat.reduceLT, Nat.reduceEqDiff, Nat.reduceLeDiff, Nat.reduceAdd, Nat.reduceSub, Nat.reduceMul, Int.reduceLT, Int.reduceLE, Int.reduceEq, Int.reduceNeg, run_unfold cut_weight.c0.eq_1, run_unfold cut_weight.c1.eq_1, cut_weight.k0, List.drop_length, List.foldl_nil]
  · rw [run_round, run_unfold cut_weight.b0.eq_1]
    rw [List.drop_eq_getElem_cons hi]
    simp (maxSteps := 2000000) only [go_sem, ↓reduceIte, Nat.reduceLT, Nat.reduceEqDiff, Nat.reduceLeDiff, Nat.reduceAdd, Nat.reduceSub, Nat.reduceMul, Int.reduceLT, Int.reduceLE, Int.reduceEq, Int.reduceNeg, hi, List.foldl_cons, wrap_succ (show i < 9223372036854775807 by omega)]
    exact ih _

theorem cut_weight_spec {c : Com} (hc : Fits c.past) {lv : List Nat} {σ : Sto} {R : Post} : Cw T true i_cut_weight [encC c] lv σ R ↔ R (.int .i64 (sumW c.past)) σ := by
  refine cw_intro T_cut_weight (by simp only [go_sem]) (by simp) ?_; rw [run_unfold cut_weight.main.eq_1]
  simp (maxSteps := 2000000) only [go_sem, ↓reduceIte, Nat.reduceLT, Nat.reduceEqDiff, Nat.reduceLeDiff, Nat.reduceAdd, Nat.reduceSub, Nat.reduceMul, Int.reduceLT, Int.reduceLE, Int.reduceEq, Int.reduceNeg]
  exact cut_weight_loop hc 0 (by omega) 0
@[go_sem] theorem cut_weight_call {c : Com} (hc : Fits c.past) {Q : Post3} {k : List Item} {os : List AOper} {d : Option Nat} {e : Env} {σ : Sto} : CallK T Q k os d e σ true i_cut_weight [encC c] ↔ Run T Q (.ops os :: k) (put e d (.int .i64 (sumW c.past))) σ := cut_weight_spec hc


theorem cmp_isNaN_int_spec {n : Int} {lv : List Nat} {σ : Sto} {R : Post} : Cw T true i_cmp_isNaN_int [.int .i64 n] lv σ R ↔ R (.bool false) σ := by
  refine cw_intro T_cmp_isNaN_int (by simp only [go_sem]) (by simp) ?_; rw [run_unfold cmp_isNaN_int.main.eq_1]
  simp (maxSteps := 2000000) only [go_sem, ↓reduceIte, Nat.reduceLT, Nat.reduceEqDiff, Nat.reduceLeDiff, Nat.reduceAdd, Nat.reduceSub, Nat.reduceMul, Int.reduceLT, Int.reduceLE, Int.reduceEq, Int.reduceNeg]
@[go_sem] theorem cmp_isNaN_int_call {n : Int} {Q : Post3} {k : List Item} {os : List AOper} {d : Option Nat} {e : Env} {σ : Sto} : CallK T Q k os d e σ true i_cmp_isNaN_int [.int .i64 n] ↔ Run T Q (.ops os :: k) (put e d (.bool false)) σ := cmp_isNaN_int_spec


def cmpI (a b : Int) : Int := if a < b then -1 else if b < a then 1 else 0

theorem cmp_Compare_int_spec {a b : Int} {lv : List Nat} {σ : Sto} {R : Post} : Cw T true i_cmp_Compare_int [.int .i64 a, .int .i64 b] lv σ R ↔ R (.int .i64 (cmpI a b)) σ := by
  refine cw_intro T_cmp_Compare_int (by simp only [go_sem]) (by simp) ?_; rw [run_unfold cmp_Compare_int.main.eq_1]
  simp (maxSteps := 2000000) only [go_sem, ↓reduceIte, Nat.reduceLT, Nat.reduceEqDiff, Nat.reduceLeDiff, Nat.reduceAdd, Nat.reduceSub, Nat.reduceMul, Int.reduceLT, Int.reduceLE, Int.reduceEq, Int.reduceNeg, cmpI]
  by_cases h : a < b
  · simp (maxSteps := 2000000) only [go_sem, ↓reduceIte, Nat.reduceLT, Nat.reduceEqDiff, Nat.reduceLeDiff, Nat.reduceAdd, Nat.reduceSub, Nat.reduceMul, Int.reduceLT, Int.reduceLE, Int.reduceEq, Int.reduceNeg, h]
  · simp (maxSteps := 2000000) only [go_sem, ↓reduceIte, Nat.reduceLT, Nat.reduceEqDiff, Nat.reduceLeDiff, Nat.reduceAdd, Nat.reduceSub, Nat.reduceMul, Int.reduceLT, Int.reduceLE, Int.reduceEq, Int.reduceNeg, h]
    by_cases h2 : b < a
    · simp (maxSteps := 2000000) only [go_sem, ↓reduceIte, Nat.reduceLT, Nat.reduceEqDiff, Nat.reduceLeDiff, Nat.reduceAdd, Nat.reduceSub, Nat.reduceMul, Int.reduceLT, Int.reduceLE, Int.reduceEq, Int.reduceNeg, h2]
    · simp (maxSteps := 2000000) only [go_sem, ↓reduceIte, Nat.reduceLT, Nat.reduceEqDiff, Nat.reduceLeDiff, Nat.reduceAdd, Nat.reduceSub, Nat.reduceMul, Int.reduceLT, Int.reduceLE, Int.reduceEq, Int.reduceNeg, h2]
@[go_sem] theorem cmp_Compare_int_call {a b : Int} {Q : Post3} {k : List Item} {os : List AOper} {d : Option Nat} {e : Env} {σ : Sto} : CallK T Q k os d e σ true i_cmp_Compare_int [.int .i64 a, .int .i64 b] ↔ Run T Q (.ops os :: k) (put e d (.int .i64 (cmpI a b))) σ := cmp_Compare_int_spec

end Go.Abs
