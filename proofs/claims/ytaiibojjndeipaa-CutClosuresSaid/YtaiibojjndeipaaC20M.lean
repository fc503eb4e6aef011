/- Chapter 20's examples are true. -/
import Derived.Test.YtaiibojjndeipaaC20E
set_option linter.all false
set_option linter.unusedSimpArgs false
set_option linter.unusedVariables false
namespace Go.Abs
open Go

theorem examples_head {Q : Post3} (h : Run T Q [.code l20_examples.c2] (mkE 210 [(1, coms .lst exL), (2, ints .lst eAll), (3, ints .lst eOne), (4, ints .lst eTwo)]) [.dead, .dead, .dead, .dead, .dead]) : Run T Q [.code l20_examples.main] (mkE 210 []) [] := by
  rw [run_unfold l20_examples.main.eq_1]
  simp (maxSteps := 2000000) only [go_sem, ↓reduceIte, Nat.reduceLT, Nat.reduceEqDiff, Nat.reduceLeDiff, Nat.reduceAdd, Nat.reduceSub, Nat.reduceMul, Int.reduceLT, Int.reduceLE, Int.reduceEq, Int.reduceNeg]
  refine afterG_of (v := coms .lst exL) (σ' := [.dead, .dead]) (by rfl) ?_
  simp (maxSteps := 2000000) only [go_sem, ↓reduceIte, Nat.reduceLT, Nat.reduceEqDiff, Nat.reduceLeDiff, Nat.reduceAdd, Nat.reduceSub, Nat.reduceMul, Int.reduceLT, Int.reduceLE, Int.reduceEq, Int.reduceNeg]
  refine afterG_of (v := ints .lst eAll) (σ' := [.dead, .dead, .dead, .cells false [int 1, int 0, int 0, int 0, int 0, int 0], .cells false [int 2, int 0, int 0, int 0, int 0, int 0]]) (by rfl) ?_
  simp (maxSteps := 2000000) only [go_sem, ↓reduceIte, Nat.reduceLT, Nat.reduceEqDiff, Nat.reduceLeDiff, Nat.reduceAdd, Nat.reduceSub, Nat.reduceMul, Int.reduceLT, Int.reduceLE, Int.reduceEq, Int.reduceNeg]
  refine afterG_of (v := ints .lst eOne) (σ' := [.dead, .dead, .dead, .dead, .cells false [int 2, int 0, int 0, int 0, int 0, int 0]]) (by rfl) ?_
  simp (maxSteps := 2000000) only [go_sem, ↓reduceIte, Nat.reduceLT, Nat.reduceEqDiff, Nat.reduceLeDiff, Nat.reduceAdd, Nat.reduceSub, Nat.reduceMul, Int.reduceLT, Int.reduceLE, Int.reduceEq, Int.reduceNeg]
  refine afterG_of (v := ints .lst eTwo) (σ' := [.dead, .dead, .dead, .dead, .dead]) (by rfl) ?_
  simp (maxSteps := 2000000) only [go_sem, ↓reduceIte, Nat.reduceLT, Nat.reduceEqDiff, Nat.reduceLeDiff, Nat.reduceAdd, Nat.reduceSub, Nat.reduceMul, Int.reduceLT, Int.reduceLE, Int.reduceEq, Int.reduceNeg]
  exact h

def allL : List Int := [999, 999, 999, 999, 999, 999]
theorem x_fits : Fits exL := by unfold Fits; decide
theorem x_closed1 : closedP exL eAll = true := by decide +kernel
theorem x_closed2 : closedP exL eOne = true := by decide +kernel
theorem x_closed3 : closedP exL eTwo = false := by decide +kernel
theorem x_great1 : reachF exL 6000 eTwo = eOne := by decide +kernel
theorem x_great2 : reachF exL 6000 allL = eAll := by decide +kernel
theorem x_cons1 : consistentP exL = true := by decide +kernel
def exL2 : List Com := [c0, c1]
theorem x_cons2 : consistentP exL2 = false := by decide +kernel
theorem x_v1 : valid eTwo = true := by decide
theorem x_v2 : valid eAll = true := by decide
theorem x_v3 : valid eOne = true := by decide
theorem x_sl2 {σ : Sto} : sliceV 5 (coms .lst exL) none (some (.int .i64 2)) none σ = some (coms .lst exL2, σ) := rfl
theorem x_sl1 {σ : Sto} : sliceV 5 (coms .lst exL) none (some (.int .i64 1)) none σ = some (coms .lst exL1, σ) := rfl
theorem x_fits2 : Fits exL2 := by unfold Fits; decide
theorem x_small {a b c d e f : Int} : Fits [a, b, c, d, e, f] := by unfold Fits; simp

theorem x_small3 {a b c : Int} : Fits [a, b, c] := by unfold Fits; simp
theorem x_v4 : valid allL = true := by decide
theorem x_f1 : Fits eOne := x_small
theorem x_f2 : Fits eAll := x_small
theorem x_f3 : Fits eTwo := x_small
theorem x_f4 : Fits e120 := x_small3
theorem x_lit : AVal.list 1 [.int .i64 1, .int .i64 2, .int .i64 0] = ints .lst e120 := rfl
theorem x_allv : ints .lst [999, 999, 999, 999, 999, 999] = ints .lst allL := rfl
theorem x_eq (a : List Int) : decide (a = a) = true := by simp

theorem x_allc {Q : Post3} {k : List Item} {os : List AOper} {d : Option Nat} {e : Env} {σ : Sto} : CallK T Q k os d e σ true i_r20_All [] ↔ Run T Q (.ops os :: k) (put e d (ints .lst allL)) σ := r20_All_call
attribute [local go_sem high] x_allc
def eAll5 : List Int := [2, 1, 0, 0, 0]
theorem x_sl5 {σ : Sto} : sliceV 1 (ints .lst eAll) none (some (.int .i64 5)) none σ = some (ints .lst eAll5, σ) := rfl
theorem x_v5 : valid eAll5 = false := by decide
theorem x_leq1 : leq eOne eAll = true := by decide
theorem x_leq2 : leq eAll eOne = false := by decide
theorem x_has1 : has eAll ⟨1, 1⟩ = true := by decide
theorem x_has2 : has eAll ⟨1, 2⟩ = false := by decide
theorem x_at0 {σ : Sto} : iaddrV 5 (coms .lst exL) (.int .i64 0) σ = some (.fptr [.int .i64 c0.st, .int .i64 c0.seq, ints c0.pf c0.past, .int .i64 c0.ver, c0.ops], σ) := rfl
theorem x_at1 {σ : Sto} : iaddrV 5 (coms .lst exL) (.int .i64 1) σ = some (.fptr [.int .i64 c1.st, .int .i64 c1.seq, ints c1.pf c1.past, .int .i64 c1.ver, c1.ops], σ) := rfl
theorem x_at2 {σ : Sto} : iaddrV 5 (coms .lst exL) (.int .i64 2) σ = some (.fptr [.int .i64 c2.st, .int .i64 c2.seq, ints c2.pf c2.past, .int .i64 c2.ver, c2.ops], σ) := rfl
theorem x_sees1 : sees c0 c2 = true := by decide
theorem x_sees2 : sees c1 c2 = false := by decide
theorem x_bef1 : befC c1 c2 = true := by decide
theorem x_bef2 : befC c2 c1 = false := by decide
theorem x_wf0 : wf c0 = true := by decide
def cz : Com := ⟨0, 0, .nil, [], 0, .nils, rfl, rfl⟩
theorem x_wfz {Q : Post3} {k : List Item} {os : List AOper} {d : Option Nat} {e : Env} {σ : Sto} : CallK T Q k os d e σ true i_cut_WellFormed [.agg [.int .i64 0, .int .i64 0, .nils, .int .i64 0, .nils]] ↔ Run T Q (.ops os :: k) (put e d (.bool false)) σ := cut_WellFormed_call (c := cz)
theorem x_max : maxL eOne eAll = eAll := by decide
theorem x_min : minL eTwo eAll = eTwo := by decide
theorem x_jn {Q : Post3} {k : List Item} {os : List AOper} {d : Option Nat} {e : Env} {σ : Sto} : CallK T Q k os d e σ true i_l20_join [ints .lst eOne, .nils] ↔ Run T Q (.ops os :: k) (put e d (.agg [.nils, .int .i64 200])) σ := l20_join_call (f := .lst) (g := .nil) (a := eOne) (b := [])

set_option maxRecDepth 100000 in
theorem examples_mid : Run T (Res [.tmp 0] (.bool true)) [.code l20_examples.c2] (mkE 210 [(1, coms .lst exL), (2, ints .lst eAll), (3, ints .lst eOne), (4, ints .lst eTwo)]) [.dead, .dead, .dead, .dead, .dead] := by
  rw [run_unfold l20_examples.c2.eq_1]
  simp (maxSteps := 2000000) only [go_sem, ↓reduceIte, Nat.reduceLT, Nat.reduceEqDiff, Nat.reduceLeDiff, Nat.reduceAdd, Nat.reduceSub, Nat.reduceMul, Int.reduceLT, Int.reduceLE, Int.reduceEq, Int.reduceNeg, x_fits, x_closed1, x_closed2, x_closed3, greatestP, x_great1, x_great2, x_v4, x_lit, x_allc, x_v1, x_v2, x_v3, x_cons1, x_cons2, x_sl2, x_fits2, x_f1, x_f2, x_f3, x_f4, x_eq]
  simp (maxSteps := 2000000) only [go_sem, ↓reduceIte, Nat.reduceLT, Nat.reduceEqDiff, Nat.reduceLeDiff, Nat.reduceAdd, Nat.reduceSub, Nat.reduceMul, Int.reduceLT, Int.reduceLE, Int.reduceEq, Int.reduceNeg, run_unfold l20_examples.c0.eq_1, run_unfold l20_examples.c1.eq_1, run_unfold l20_examples.c2.eq_1, x_lit, x_f1, x_f2, x_f3, x_f4, x_eq, x_sl1, x_sl5, x_v5, x_leq1, x_leq2, x_has1, x_has2, x_at0, x_at1, x_at2, x_sees1, x_sees2, x_bef1, x_bef2, x_wf0, x_wfz, x_max, x_min, x_jn, cutOf, x_v1, x_v2, x_v3, x_fits]
  refine afterG_of (v := ints .lst e120) (by rfl) ?_
  simp (maxSteps := 2000000) only [go_sem, ↓reduceIte, Nat.reduceLT, Nat.reduceEqDiff, Nat.reduceLeDiff, Nat.reduceAdd, Nat.reduceSub, Nat.reduceMul, Int.reduceLT, Int.reduceLE, Int.reduceEq, Int.reduceNeg, run_unfold l20_examples.c0.eq_1, run_unfold l20_examples.c1.eq_1, run_unfold l20_examples.c2.eq_1, x_lit, x_f1, x_f2, x_f3, x_f4, x_eq, x_sl1, x_sl5, x_v5, x_leq1, x_leq2, x_has1, x_has2, x_at0, x_at1, x_at2, x_sees1, x_sees2, x_bef1, x_bef2, x_wf0, x_wfz, x_max, x_min, x_jn, cutOf, x_v1, x_v2, x_v3, x_fits]
  refine afterG_of (v := .list 2 [.agg [.int .i64 0, .int .i64 2]]) (by rfl) ?_
  simp (maxSteps := 2000000) only [go_sem, ↓reduceIte, Nat.reduceLT, Nat.reduceEqDiff, Nat.reduceLeDiff, Nat.reduceAdd, Nat.reduceSub, Nat.reduceMul, Int.reduceLT, Int.reduceLE, Int.reduceEq, Int.reduceNeg, run_unfold l20_examples.c0.eq_1, run_unfold l20_examples.c1.eq_1, run_unfold l20_examples.c2.eq_1, x_lit, x_f1, x_f2, x_f3, x_f4, x_eq, x_sl1, x_sl5, x_v5, x_leq1, x_leq2, x_has1, x_has2, x_at0, x_at1, x_at2, x_sees1, x_sees2, x_bef1, x_bef2, x_wf0, x_wfz, x_max, x_min, x_jn, cutOf, x_v1, x_v2, x_v3, x_fits]
  refine afterG_of (v := .list 2 [.agg [.int .i64 2, .int .i64 1]]) (by rfl) ?_
  simp (maxSteps := 2000000) only [go_sem, ↓reduceIte, Nat.reduceLT, Nat.reduceEqDiff, Nat.reduceLeDiff, Nat.reduceAdd, Nat.reduceSub, Nat.reduceMul, Int.reduceLT, Int.reduceLE, Int.reduceEq, Int.reduceNeg, run_unfold l20_examples.c0.eq_1, run_unfold l20_examples.c1.eq_1, run_unfold l20_examples.c2.eq_1, x_lit, x_f1, x_f2, x_f3, x_f4, x_eq, x_sl1, x_sl5, x_v5, x_leq1, x_leq2, x_has1, x_has2, x_at0, x_at1, x_at2, x_sees1, x_sees2, x_bef1, x_bef2, x_wf0, x_wfz, x_max, x_min, x_jn, cutOf, x_v1, x_v2, x_v3, x_fits]
  refine afterG_of (v := .list 2 [.agg [.int .i64 0, .int .i64 2]]) (by rfl) ?_
  simp (maxSteps := 2000000) only [go_sem, ↓reduceIte, Nat.reduceLT, Nat.reduceEqDiff, Nat.reduceLeDiff, Nat.reduceAdd, Nat.reduceSub, Nat.reduceMul, Int.reduceLT, Int.reduceLE, Int.reduceEq, Int.reduceNeg, run_unfold l20_examples.c0.eq_1, run_unfold l20_examples.c1.eq_1, run_unfold l20_examples.c2.eq_1, x_lit, x_f1, x_f2, x_f3, x_f4, x_eq, x_sl1, x_sl5, x_v5, x_leq1, x_leq2, x_has1, x_has2, x_at0, x_at1, x_at2, x_sees1, x_sees2, x_bef1, x_bef2, x_wf0, x_wfz, x_max, x_min, x_jn, cutOf, x_v1, x_v2, x_v3, x_fits]

theorem l20_examples_spec  {lv : List Nat} {σ : Sto} {R : Post} : Cw T true i_l20_examples [] lv σ R ↔ R (.bool true) σ := by
  refine cw_intro T_l20_examples rfl (by simp) ?_
  exact examples_head examples_mid
@[go_sem] theorem l20_examples_call  {Q : Post3} {k : List Item} {os : List AOper} {d : Option Nat} {e : Env} {σ : Sto} : CallK T Q k os d e σ true i_l20_examples [] ↔ Run T Q (.ops os :: k) (put e d (.bool true)) σ := l20_examples_spec


end Go.Abs
