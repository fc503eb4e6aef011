/- Walks of chapter 20: orders, names, closed cuts of the reference. -/
import Derived.Test.YtaiibojjndeipaaC20C
set_option linter.all false
set_option linter.unusedSimpArgs false
set_option linter.unusedVariables false
namespace Go.Abs
open Go

/-! ### The fixed order -/
def orI (l : List Int) : Int := (l.find? fun x => decide (x ≠ 0)).getD 0

theorem cmp_Or_int_loop {f : SlF} {l : List Int} (hl : Fits l) : ∀ i, i ≤ l.length →
    Run T (Res [.tmp 2] (.int .i64 (orI (l.drop i)))) (.inLoop cmp_Or_int.b0 :: cmp_Or_int.k0) (mkE 18 [(3, .int .i64 0), (6, ints f l), (7, .int .i64 l.length), (8, .int .i64 i)]) [] := by
  refine up_ind ?_ fun i hi ih => ?_
  · rw [run_round, run_unfold cmp_Or_int.b0.eq_1]
    simp (maxSteps := 2000000) only [go_sem, ↓reduceIte, Nat.reduceLT, Nat.reduceEqDiff, Nat.reduceLeDiff, Nat.reduceAdd, Nat.reduceSub, Nat.reduceMul, Int.reduceLT, Int.reduceLE, Int.reduceEq, Int.reduceNeg, run_unfold cmp_Or_int.c0.eq_1, cmp_Or_int.k0, List.drop_length, orI, List.find?_nil, Option.getD_none]
  · rw [run_round, run_unfold cmp_Or_int.b0.eq_1]
    rw [List.drop_eq_getElem_cons hi]
    by_cases h : l[i] = 0
    · simp (maxSteps := 2000000) only [go_sem, ↓reduceIte, Nat.reduceLT, Nat.reduceEqDiff, Nat.reduceLeDiff, Nat.reduceAdd, Nat.reduceSub, Nat.reduceMul, Int.reduceLT, Int.reduceLE, Int.reduceEq, Int.reduceNeg, hi, h, orI, List.find?_cons, wrap_succ (show i < 9223372036854775807 by omega)]
      exact ih
    · simp (maxSteps := 2000000) only [go_sem, ↓reduceIte, Nat.reduceLT, Nat.reduceEqDiff, Nat.reduceLeDiff, Nat.reduceAdd, Nat.reduceSub, Nat.reduceMul, Int.reduceLT, Int.reduceLE, Int.reduceEq, Int.reduceNeg, hi, h, orI, List.find?_cons, Option.getD_some]

theorem cmp_Or_int_spec {f : SlF} {l : List Int} (hl : Fits l) {lv : List Nat} {σ : Sto} {R : Post} : Cw T true i_cmp_Or_int [ints f l] lv σ R ↔ R (.int .i64 (orI l)) σ := by
  refine cw_intro T_cmp_Or_int (by simp only [go_sem]) (by simp) ?_; rw [run_unfold cmp_Or_int.main.eq_1]
  simp (maxSteps := 2000000) only [go_sem, ↓reduceIte, Nat.reduceLT, Nat.reduceEqDiff, Nat.reduceLeDiff, Nat.reduceAdd, Nat.reduceSub, Nat.reduceMul, Int.reduceLT, Int.reduceLE, Int.reduceEq, Int.reduceNeg]
  exact cmp_Or_int_loop hl 0 (by omega)
@[go_sem] theorem cmp_Or_int_call {f : SlF} {l : List Int} (hl : Fits l) {Q : Post3} {k : List Item} {os : List AOper} {d : Option Nat} {e : Env} {σ : Sto} : CallK T Q k os d e σ true i_cmp_Or_int [ints f l] ↔ Run T Q (.ops os :: k) (put e d (.int .i64 (orI l))) σ := cmp_Or_int_spec hl


theorem snap_lit {σ : Sto} {o m : Nat} {c : List Int} (hσ : σ[o]? = some (.cells false (c.map fun n => AVal.int .i64 n))) (hm : c.length = m) : snapA σ 64 (.ref o m 0 m 1) = some (ints .lst c) := by
  subst hm; exact snap_ints (n := 62) hσ

def cmpC (a b : Com) : Int := orI [cmpI (sumW a.past) (sumW b.past), cmpI a.st b.st, cmpI a.seq b.seq]

theorem cut_compare_spec {a b : Com} (ha : Fits a.past) (hb : Fits b.past) {lv : List Nat} {σ : Sto} {R : Post} : Cw T true i_cut_compare [encC a, encC b] lv σ R ↔ R (.int .i64 (cmpC a b)) σ := by
  refine cw_intro T_cut_compare (by simp only [go_sem]) (by simp) ?_; rw [run_unfold cut_compare.main.eq_1]
  simp (maxSteps := 2000000) only [go_sem, ↓reduceIte, Nat.reduceLT, Nat.reduceEqDiff, Nat.reduceLeDiff, Nat.reduceAdd, Nat.reduceSub, Nat.reduceMul, Int.reduceLT, Int.reduceLE, Int.reduceEq, Int.reduceNeg, ha, hb]
  rw [callK_live T_cmp_Or_int (as := [ints .lst [cmpI (sumW a.past) (sumW b.past), cmpI a.st b.st, cmpI a.seq b.seq]]) (cmp_Or_int_spec (by unfold Fits; simp)) (by
    rw [mapM_scons, mapM_snil, snapDepth_eq, snap_lit (c := [cmpI (sumW a.past) (sumW b.past), cmpI a.st b.st, cmpI a.seq b.seq]) (by rfl) (by rfl)]) rfl rfl]
  simp (maxSteps := 2000000) only [go_sem, ↓reduceIte, Nat.reduceLT, Nat.reduceEqDiff, Nat.reduceLeDiff, Nat.reduceAdd, Nat.reduceSub, Nat.reduceMul, Int.reduceLT, Int.reduceLE, Int.reduceEq, Int.reduceNeg, cmpC]
@[go_sem] theorem cut_compare_call {a b : Com} (ha : Fits a.past) (hb : Fits b.past) {Q : Post3} {k : List Item} {os : List AOper} {d : Option Nat} {e : Env} {σ : Sto} : CallK T Q k os d e σ true i_cut_compare [encC a, encC b] ↔ Run T Q (.ops os :: k) (put e d (.int .i64 (cmpC a b))) σ := cut_compare_spec ha hb


theorem fits_of_valid {c : List Int} (h : valid c = true) : Fits c := by have := valid_len h; unfold Fits; omega

def befC (a b : Com) : Bool := wf a && wf b && decide (cmpC a b < 0)

theorem past_fits {c : Com} (h : wf c = true) : Fits c.past := fits_of_valid (wf_parts h).2.2.2.2.1

theorem cut_Before_spec {a b : Com} {lv : List Nat} {σ : Sto} {R : Post} : Cw T true i_cut_Before [encC a, encC b] lv σ R ↔ R (.bool (befC a b)) σ := by
  refine cw_intro T_cut_Before (by simp only [go_sem]) (by simp) ?_; rw [run_unfold cut_Before.main.eq_1]
  unfold befC
  cases h1 : wf a
  case false => simp (maxSteps := 2000000) only [go_sem, ↓reduceIte, Nat.reduceLT, Nat.reduceEqDiff, Nat.reduceLeDiff, Nat.reduceAdd, Nat.reduceSub, Nat.reduceMul, Int.reduceLT, Int.reduceLE, Int.reduceEq, Int.reduceNeg, h1]
  cases h2 : wf b
  case false => simp (maxSteps := 2000000) only [go_sem, ↓reduceIte, Nat.reduceLT, Nat.reduceEqDiff, Nat.reduceLeDiff, Nat.reduceAdd, Nat.reduceSub, Nat.reduceMul, Int.reduceLT, Int.reduceLE, Int.reduceEq, Int.reduceNeg, h2, h1]
  simp (maxSteps := 2000000) only [go_sem, ↓reduceIte, Nat.reduceLT, Nat.reduceEqDiff, Nat.reduceLeDiff, Nat.reduceAdd, Nat.reduceSub, Nat.reduceMul, Int.reduceLT, Int.reduceLE, Int.reduceEq, Int.reduceNeg, h1, h2, past_fits h1, past_fits h2]
@[go_sem] theorem cut_Before_call {a b : Com} {Q : Post3} {k : List Item} {os : List AOper} {d : Option Nat} {e : Env} {σ : Sto} : CallK T Q k os d e σ true i_cut_Before [encC a, encC b] ↔ Run T Q (.ops os :: k) (put e d (.bool (befC a b))) σ := cut_Before_spec


theorem cmpC_lt (a b : Com) : decide (cmpC a b < 0) = if decide (sumW a.past = sumW b.past) = true then (if decide (a.st = b.st) = true then decide (a.seq < b.seq) else decide (a.st < b.st)) else decide (sumW a.past < sumW b.past) := by
  have hz : ∀ x y : Int, (cmpI x y = 0 ↔ x = y) ∧ (cmpI x y < 0 ↔ x < y) := by
    intro x y
    unfold cmpI
    split
    · constructor <;> constructor <;> intro <;> omega
    · split
      · constructor <;> constructor <;> intro <;> omega
      · constructor <;> constructor <;> intro <;> omega
  unfold cmpC orI
  by_cases h1 : sumW a.past = sumW b.past
  · rw [if_pos (by simp [h1])]
    have e1 := (hz _ _).1.2 h1
    by_cases h2 : a.st = b.st
    · rw [if_pos (by simp [h2])]
      have e2 := (hz _ _).1.2 h2
      by_cases h3 : a.seq = b.seq
      · have e3 := (hz _ _).1.2 h3
        have h4 : ¬ a.seq < b.seq := by omega
        simp [List.find?_cons, e1, e2, e3, h4]
      · have : cmpI a.seq b.seq ≠ 0 := fun e => h3 ((hz _ _).1.1 e)
        simp [List.find?_cons, e1, e2, this, (hz a.seq b.seq).2]
    · rw [if_neg (by simp [h2])]
      have : cmpI a.st b.st ≠ 0 := fun e => h2 ((hz _ _).1.1 e)
      simp [List.find?_cons, e1, this, (hz a.st b.st).2]
  · rw [if_neg (by simp [h1])]
    have : cmpI (sumW a.past) (sumW b.past) ≠ 0 := fun e => h1 ((hz _ _).1.1 e)
    simp [List.find?_cons, this, (hz (sumW a.past) (sumW b.past)).2]

theorem r20_Before_spec {a b : Com} {lv : List Nat} {σ : Sto} {R : Post} : Cw T true i_r20_Before [encC a, encC b] lv σ R ↔ R (.bool (befC a b)) σ := by
  refine cw_intro T_r20_Before (by simp only [go_sem]) (by simp) ?_; rw [run_unfold r20_Before.main.eq_1]
  unfold befC
  rw [cmpC_lt]
  cases h1 : wf a
  case false => simp (maxSteps := 2000000) only [go_sem, ↓reduceIte, Nat.reduceLT, Nat.reduceEqDiff, Nat.reduceLeDiff, Nat.reduceAdd, Nat.reduceSub, Nat.reduceMul, Int.reduceLT, Int.reduceLE, Int.reduceEq, Int.reduceNeg, h1]
  cases h2 : wf b
  case false => simp (maxSteps := 2000000) only [go_sem, ↓reduceIte, Nat.reduceLT, Nat.reduceEqDiff, Nat.reduceLeDiff, Nat.reduceAdd, Nat.reduceSub, Nat.reduceMul, Int.reduceLT, Int.reduceLE, Int.reduceEq, Int.reduceNeg, h2, h1]
  cases h3 : decide (sumW a.past = sumW b.past)
  · simp (maxSteps := 2000000) only [go_sem, ↓reduceIte, Nat.reduceLT, Nat.reduceEqDiff, Nat.reduceLeDiff, Nat.reduceAdd, Nat.reduceSub, Nat.reduceMul, Int.reduceLT, Int.reduceLE, Int.reduceEq, Int.reduceNeg, h1, h2, past_fits h1, past_fits h2, h3]
  · cases h4 : decide (a.st = b.st)
    · simp (maxSteps := 2000000) only [go_sem, ↓reduceIte, Nat.reduceLT, Nat.reduceEqDiff, Nat.reduceLeDiff, Nat.reduceAdd, Nat.reduceSub, Nat.reduceMul, Int.reduceLT, Int.reduceLE, Int.reduceEq, Int.reduceNeg, h1, h2, past_fits h1, past_fits h2, h3, h4]
    · simp (maxSteps := 2000000) only [go_sem, ↓reduceIte, Nat.reduceLT, Nat.reduceEqDiff, Nat.reduceLeDiff, Nat.reduceAdd, Nat.reduceSub, Nat.reduceMul, Int.reduceLT, Int.reduceLE, Int.reduceEq, Int.reduceNeg, h1, h2, past_fits h1, past_fits h2, h3, h4]
@[go_sem] theorem r20_Before_call {a b : Com} {Q : Post3} {k : List Item} {os : List AOper} {d : Option Nat} {e : Env} {σ : Sto} : CallK T Q k os d e σ true i_r20_Before [encC a, encC b] ↔ Run T Q (.ops os :: k) (put e d (.bool (befC a b))) σ := r20_Before_spec


/-! ### Names -/
@[go_sem] theorem eqsV_name {neg : Bool} {a b c d : Int} {σ : Sto} : eqsV neg (.row [(0, 1, false, .int .i64), (1, 1, false, .int .i64)]) (.agg [.int .i64 a, .int .i64 b]) (.agg [.int .i64 c, .int .i64 d]) σ = some (.bool (if neg = true then !(decide (a = c) && decide (b = d)) else (decide (a = c) && decide (b = d))), σ) := by
  have : eqA (.row [(0, 1, false, .int .i64), (1, 1, false, .int .i64)]) (.agg [.int .i64 a, .int .i64 b]) (.agg [.int .i64 c, .int .i64 d]) = some (decide (a = c) && decide (b = d)) := by
    simp only [eqA, eqParts]
    by_cases h : a = c
    · subst h
      by_cases h2 : b = d
      · subst h2; simp
      · simp [h2]
    · simp [h]
  simp only [eqsV, this]
  cases neg <;> rfl

def isN (n : Nam) (c : Com) : Bool := decide (c.st = n.st) && decide (c.seq = n.seq)

@[go_sem] theorem iaddrV_coms {f : SlF} {l : List Com} {kd : IntKind} {i : Nat} {σ : Sto} (h : i < l.length) : iaddrV 5 (sv 5 f (l.map encC)) (.int kd (i : Int)) σ = some (.fptr [.int .i64 l[i].st, .int .i64 l[i].seq, ints l[i].pf l[i].past, .int .i64 l[i].ver, l[i].ops], σ) := iaddrV_map h
abbrev coms (f : SlF) (l : List Com) : AVal := sv 5 f (l.map encC)

theorem r20_Find_loop {f : SlF} {l : List Com} {n : Nam} (hl : Fits l) : ∀ i, i ≤ l.length →
    Run T (Res [.tmp 4] (.int .i64 (match (l.drop i).findIdx? (isN n) with | some j => (i + j : Nat) | none => -1))) (.inLoop r20_Find.b0 :: r20_Find.k0) (mkE 20 [(0, coms f l), (3, .ptr 0 2 0), (5, .int .i64 i)]) [.cells false (encN n).cells] := by
  refine up_ind ?_ fun i hi ih => ?_
  · rw [run_round, run_unfold r20_Find.b0.eq_1]
    simp (maxSteps := 2000000) only [go_sem, ↓reduceIte, Nat.reduceLT, Nat.reduceEqDiff, Nat.reduceLeDiff, Nat.reduceAdd, Nat.reduceSub, Nat.reduceMul, Int.reduceLT, Int.reduceLE, Int.reduceEq, Int.reduceNeg, run_unfold r20_Find.c0.eq_1, r20_Find.k0, List.drop_length, List.findIdx?_nil]
  · rw [run_round, run_unfold r20_Find.b0.eq_1]
    rw [List.drop_eq_getElem_cons hi]
    have hno : isN n l[i] = false → Run T (Res [.tmp 4] (.int .i64 (match (Option.map (fun i => i + 1) ((l.drop (i + 1)).findIdx? (isN n))) with | some j => (i + j : Nat) | none => -1))) (.inLoop r20_Find.b0 :: r20_Find.k0) (mkE 20 [(0, coms f l), (3, .ptr 0 2 0), (5, .int .i64 ((i + 1 : Nat) : Int))]) [.cells false (encN n).cells] := by
      intro _
      refine Eq.mp (congrArg (fun v => Run T (Res [.tmp 4] (.int .i64 v)) _ _ _) ?_) ih
      cases (l.drop (i + 1)).findIdx? (isN n) with
      | none => rfl
      | some j => simp; omega
    by_cases h1 : l[i].st = n.st
    · by_cases h2 : l[i].seq = n.seq
      · simp (maxSteps := 2000000) only [go_sem, ↓reduceIte, Nat.reduceLT, Nat.reduceEqDiff, Nat.reduceLeDiff, Nat.reduceAdd, Nat.reduceSub, Nat.reduceMul, Int.reduceLT, Int.reduceLE, Int.reduceEq, Int.reduceNeg, hi, List.findIdx?_cons, isN, h1, h2]
      · have h3 : isN n l[i] = false := by simp [isN, h2]
        simp (maxSteps := 2000000) only [go_sem, ↓reduceIte, Nat.reduceLT, Nat.reduceEqDiff, Nat.reduceLeDiff, Nat.reduceAdd, Nat.reduceSub, Nat.reduceMul, Int.reduceLT, Int.reduceLE, Int.reduceEq, Int.reduceNeg, hi, List.findIdx?_cons, h3, h1, h2, wrap_succ (show i < 9223372036854775807 by omega)]
        exact hno h3
    · have h3 : isN n l[i] = false := by simp [isN, h1]
      simp (maxSteps := 2000000) only [go_sem, ↓reduceIte, Nat.reduceLT, Nat.reduceEqDiff, Nat.reduceLeDiff, Nat.reduceAdd, Nat.reduceSub, Nat.reduceMul, Int.reduceLT, Int.reduceLE, Int.reduceEq, Int.reduceNeg, hi, List.findIdx?_cons, h3, h1, wrap_succ (show i < 9223372036854775807 by omega)]
      exact hno h3

theorem r20_Find_spec {f : SlF} {l : List Com} {st seq : Int} (hl : Fits l) {lv : List Nat} {σ : Sto} {R : Post} : Cw T true i_r20_Find [coms f l, .agg [.int .i64 st, .int .i64 seq]] lv σ R ↔ R (.int .i64 (idxOf (isN ⟨st, seq⟩) l)) σ := by
  refine cw_intro T_r20_Find (by simp only [go_sem]) (by simp) ?_; rw [run_unfold r20_Find.main.eq_1]
  simp (maxSteps := 2000000) only [go_sem, ↓reduceIte, Nat.reduceLT, Nat.reduceEqDiff, Nat.reduceLeDiff, Nat.reduceAdd, Nat.reduceSub, Nat.reduceMul, Int.reduceLT, Int.reduceLE, Int.reduceEq, Int.reduceNeg]
  have := r20_Find_loop (f := f) (n := ⟨st, seq⟩) hl 0 (by omega)
  simp only [List.drop_zero, Nat.zero_add] at this
  exact this
@[go_sem] theorem r20_Find_call {f : SlF} {l : List Com} {st seq : Int} (hl : Fits l) {Q : Post3} {k : List Item} {os : List AOper} {d : Option Nat} {e : Env} {σ : Sto} : CallK T Q k os d e σ true i_r20_Find [coms f l, .agg [.int .i64 st, .int .i64 seq]] ↔ Run T Q (.ops os :: k) (put e d (.int .i64 (idxOf (isN ⟨st, seq⟩) l))) σ := r20_Find_spec hl


end Go.Abs
