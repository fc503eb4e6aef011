/- The walk of Closure. -/
import Derived.Test.YtaiibojjndeipaaC20W
set_option linter.all false
set_option linter.unusedSimpArgs false
set_option linter.unusedVariables false
set_option maxRecDepth 100000
set_option maxHeartbeats 4000000
namespace Go.Abs
open Go

theorem mem_get {l : List Com} {n : Nam} (h : Mem l n) (hl : LGood l) : ∃ i : Nat, (nmap l).get n = some i := by
  obtain ⟨e, he, rfl⟩ := h
  obtain ⟨i, hi, rfl⟩ := List.getElem_of_mem he
  exact ⟨i, nmap_self hl hi⟩

theorem cut_Closure_b1 {f g : SlF} {l : List Com} (hf : Fits l) (hl : LGood l) {ns : List Nam} (hns : ∀ n ∈ ns, Mem l n) (hn : Fits ns) : ∀ i, i ≤ ns.length → ∀ c, valid c = true →
    Run T (Res [.tmp 4, .tmp 5] (.tup [ints .lst ((ns.drop i).foldl (fun c n => maxL c (ownOf l n)) c), .int .i64 0])) (.inLoop cut_Closure.b1 :: cut_Closure.k1) (mkE 46 [(7, .ptr 3 1 0), (8, .ptr 4 1 0), (34, noms g ns), (35, .int .i64 ns.length), (36, .int .i64 i)]) (Bst f l c []) := by
  refine up_ind ?_ fun i hi ih => ?_
  · intro c hv
    rw [run_round, run_unfold cut_Closure.b1.eq_1]
    simp (maxSteps := 2000000) only [go_sem, ↓reduceIte, Nat.reduceLT, Nat.reduceEqDiff, Nat.reduceLeDiff, Nat.reduceAdd, Nat.reduceSub, Nat.reduceMul, Int.reduceLT, Int.reduceLE, Int.reduceEq, Int.reduceNeg, run_unfold cut_Closure.c0.eq_1, run_unfold cut_Closure.c1.eq_1, run_unfold cut_Closure.c2.eq_1, run_unfold cut_Closure.c3.eq_1, cut_Closure.k0, cut_Closure.k1, List.drop_length, List.foldl_nil]
    rw [snap_litN (n := 61) (c := c) (by rfl) (valid_len hv)]
    rfl
  · intro c hv
    rw [run_round, run_unfold cut_Closure.b1.eq_1]
    rw [List.drop_eq_getElem_cons hi, List.foldl_cons]
    obtain ⟨e, he, hee⟩ := hns ns[i] (List.getElem_mem hi)
    simp (maxSteps := 2000000) only [go_sem, ↓reduceIte, Nat.reduceLT, Nat.reduceEqDiff, Nat.reduceLeDiff, Nat.reduceAdd, Nat.reduceSub, Nat.reduceMul, Int.reduceLT, Int.reduceLE, Int.reduceEq, Int.reduceNeg, hi]
    rw [← hee, ownOf_mem hl he]
    have ge := hl.coms e he
    have hst : e.nam.st = ((e.st.toNat : Nat) : Int) := by have := ge.s0; show e.st = _; omega
    have hsq : e.nam.seq = e.seq := rfl
    have key : AddOk f l c e.st.toNat e.seq (maxL c (own e)) := @add_ok f l hf hl 6001 c hv (by omega) e he
    rw [hst, hsq]
    unfold CallK
    refine key (ρ := [.cells false [.int .i64 ((e.st.toNat : Nat) : Int), .int .i64 e.seq]]) (fun p => rfl) fun x y => ?_
    simp (maxSteps := 2000000) only [go_sem, ↓reduceIte, Nat.reduceLT, Nat.reduceEqDiff, Nat.reduceLeDiff, Nat.reduceAdd, Nat.reduceSub, Nat.reduceMul, Int.reduceLT, Int.reduceLE, Int.reduceEq, Int.reduceNeg, wrap_succ (show i < 9223372036854775807 by omega)]
    exact ih _ (valid_maxL hv (own_valid ge))

theorem cut_Closure_b0 {f g : SlF} {l : List Com} (hf : Fits l) (hl : LGood l) {ns : List Nam} (hns : ∀ n ∈ ns, Mem l n) (hn : Fits ns) : ∀ i, i ≤ ns.length →
    Run T (Res [.tmp 4, .tmp 5] (.tup [ints .lst (cloF l ns), .int .i64 0])) (.inLoop cut_Closure.b0 :: cut_Closure.k0) (mkE 46 [(1, noms g ns), (6, .ptr 1 1 0), (7, .ptr 3 1 0), (8, .ptr 4 1 0), (19, noms g ns), (20, .int .i64 ns.length), (21, .int .i64 i)]) (Bst f l zeros []) := by
  refine up_ind ?_ fun i hi ih => ?_
  · rw [run_round, run_unfold cut_Closure.b0.eq_1]
    simp (maxSteps := 2000000) only [go_sem, ↓reduceIte, Nat.reduceLT, Nat.reduceEqDiff, Nat.reduceLeDiff, Nat.reduceAdd, Nat.reduceSub, Nat.reduceMul, Int.reduceLT, Int.reduceLE, Int.reduceEq, Int.reduceNeg, run_unfold cut_Closure.c0.eq_1, run_unfold cut_Closure.c1.eq_1, run_unfold cut_Closure.c2.eq_1, run_unfold cut_Closure.c3.eq_1, cut_Closure.k0, cut_Closure.k1]
    exact cut_Closure_b1 hf hl hns hn 0 (by omega) zeros zeros_valid
  · rw [run_round, run_unfold cut_Closure.b0.eq_1]
    obtain ⟨j, hj⟩ := mem_get (hns ns[i] (List.getElem_mem hi)) hl
    simp (maxSteps := 2000000) only [go_sem, ↓reduceIte, Nat.reduceLT, Nat.reduceEqDiff, Nat.reduceLeDiff, Nat.reduceAdd, Nat.reduceSub, Nat.reduceMul, Int.reduceLT, Int.reduceLE, Int.reduceEq, Int.reduceNeg, hi, hj]
    rw [wrap_succ (show i < 9223372036854775807 by omega)]
    exact ih

theorem cut_Closure_spec {f g : SlF} {l : List Com} {ns : List Nam} (hf : Fits l) (hl : LGood l) (hns : ∀ n ∈ ns, Mem l n) (hn : Fits ns) {lv : List Nat} {σ : Sto} {R : Post} : Cw T true i_cut_Closure [coms f l, noms g ns] lv σ R ↔ R (.tup [ints .lst (cloF l ns), .int .i64 0]) σ := by
  refine cw_intro T_cut_Closure (by simp only [go_sem]) (by simp) ?_; rw [run_unfold cut_Closure.main.eq_1]
  simp (maxSteps := 2000000) only [go_sem, ↓reduceIte, Nat.reduceLT, Nat.reduceEqDiff, Nat.reduceLeDiff, Nat.reduceAdd, Nat.reduceSub, Nat.reduceMul, Int.reduceLT, Int.reduceLE, Int.reduceEq, Int.reduceNeg, hf]
  rw [show ∀ σ : Sto, mksliceV 1 8 [AVal.int IntKind.i64 0] (AVal.int IntKind.i64 6) (AVal.int IntKind.i64 6) σ = some (.ref σ.length 6 0 6 1, σ ++ [.cells false (zeros.map fun n => .int .i64 n)]) from fun _ => rfl]
  simp (maxSteps := 2000000) only [go_sem, ↓reduceIte, Nat.reduceLT, Nat.reduceEqDiff, Nat.reduceLeDiff, Nat.reduceAdd, Nat.reduceSub, Nat.reduceMul, Int.reduceLT, Int.reduceLE, Int.reduceEq, Int.reduceNeg]
  exact cut_Closure_b0 hf hl hns hn 0 (by omega)
@[go_sem] theorem cut_Closure_call {f g : SlF} {l : List Com} {ns : List Nam} (hf : Fits l) (hl : LGood l) (hns : ∀ n ∈ ns, Mem l n) (hn : Fits ns) {Q : Post3} {k : List Item} {os : List AOper} {d : Option Nat} {e : Env} {σ : Sto} : CallK T Q k os d e σ true i_cut_Closure [coms f l, noms g ns] ↔ Run T Q (.ops os :: k) (put e d (.tup [ints .lst (cloF l ns), .int .i64 0])) σ := cut_Closure_spec hf hl hns hn


end Go.Abs
