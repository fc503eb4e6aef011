/- The walk of CutCausal. -/
import Derived.Test.YtaiibojjndeipaaC20M
set_option linter.all false
set_option linter.unusedSimpArgs false
set_option linter.unusedVariables false
set_option maxRecDepth 100000
set_option maxHeartbeats 4000000
namespace Go.Abs
open Go

structure Causal (l : List Com) : Prop where
  cons : consistentP l = true
  wf : ∀ (i : Nat) (h : i < l.length), wf l[i] = true
  irr : ∀ (i : Nat) (h : i < l.length), sees l[i] l[i] = false
  irr' : ∀ (i : Nat) (h : i < l.length), befC l[i] l[i] = false
  tot : ∀ (i j : Nat) (hi : i < l.length) (hj : j < l.length), i ≠ j → befC l[j] l[i] = !befC l[i] l[j]
  see : ∀ (i j : Nat) (hi : i < l.length) (hj : j < l.length), sees l[i] l[j] = true → befC l[j] l[i] = true ∧ leq l[j].past l[i].past = true ∧ sees l[j] l[i] = false
  trans : ∀ (i j k : Nat) (hi : i < l.length) (hj : j < l.length) (hk : k < l.length), sees l[i] l[j] = true → sees l[j] l[k] = true → sees l[i] l[k] = true

abbrev yes : Post := fun v _ => v = .bool true

theorem causal_k {l : List Com} (hl : Fits l) (hc : Causal l) {i j : Nat} (hi : i < l.length) (hj : j < l.length)
    (next : Run T (Ret [.tmp 2] yes) (.inLoop l20_CutCausal.b1 :: l20_CutCausal.k1) (mkE 167 [(3, .bool true), (4, coms .lst l), (5, .int .i64 i), (6, .int .i64 ((j + 1 : Nat) : Int))]) []) : ∀ k, k ≤ l.length →
    Run T (Ret [.tmp 2] yes) (.inLoop l20_CutCausal.b2 :: l20_CutCausal.k2) (mkE 167 [(3, .bool true), (4, coms .lst l), (5, .int .i64 i), (6, .int .i64 j), (7, .int .i64 k)]) [] := by
  refine up_ind ?_ fun k hk ih => ?_
  · rw [run_round, run_unfold l20_CutCausal.b2.eq_1]
    simp (maxSteps := 2000000) only [go_sem, ↓reduceIte, Nat.reduceLT, Nat.reduceEqDiff, Nat.reduceLeDiff, Nat.reduceAdd, Nat.reduceSub, Nat.reduceMul, Int.reduceLT, Int.reduceLE, Int.reduceEq, Int.reduceNeg, run_unfold l20_CutCausal.c0.eq_1, run_unfold l20_CutCausal.c1.eq_1, run_unfold l20_CutCausal.c2.eq_1, l20_CutCausal.k0, l20_CutCausal.k1, l20_CutCausal.k2, wrap_succ (show j < 9223372036854775807 by omega)]
    exact next
  · rw [run_round, run_unfold l20_CutCausal.b2.eq_1]
    have hw := wrap_succ (show k < 9223372036854775807 by omega)
    cases h1 : sees l[i] l[j]
    · simp (maxSteps := 2000000) only [go_sem, ↓reduceIte, Nat.reduceLT, Nat.reduceEqDiff, Nat.reduceLeDiff, Nat.reduceAdd, Nat.reduceSub, Nat.reduceMul, Int.reduceLT, Int.reduceLE, Int.reduceEq, Int.reduceNeg, hi, hj, hk, h1, hw]
      exact ih
    · cases h2 : sees l[j] l[k]
      · simp (maxSteps := 2000000) only [go_sem, ↓reduceIte, Nat.reduceLT, Nat.reduceEqDiff, Nat.reduceLeDiff, Nat.reduceAdd, Nat.reduceSub, Nat.reduceMul, Int.reduceLT, Int.reduceLE, Int.reduceEq, Int.reduceNeg, hi, hj, hk, h1, h2, hw]
        exact ih
      · have h3 := hc.trans i j k hi hj hk h1 h2
        simp (maxSteps := 2000000) only [go_sem, ↓reduceIte, Nat.reduceLT, Nat.reduceEqDiff, Nat.reduceLeDiff, Nat.reduceAdd, Nat.reduceSub, Nat.reduceMul, Int.reduceLT, Int.reduceLE, Int.reduceEq, Int.reduceNeg, hi, hj, hk, h1, h2, h3, hw]
        exact ih

theorem causal_j {l : List Com} (hl : Fits l) (hc : Causal l) {i : Nat} (hi : i < l.length)
    (next : Run T (Ret [.tmp 2] yes) (.inLoop l20_CutCausal.b0 :: l20_CutCausal.k0) (mkE 167 [(3, .bool true), (4, coms .lst l), (5, .int .i64 ((i + 1 : Nat) : Int))]) []) : ∀ j, j ≤ l.length →
    Run T (Ret [.tmp 2] yes) (.inLoop l20_CutCausal.b1 :: l20_CutCausal.k1) (mkE 167 [(3, .bool true), (4, coms .lst l), (5, .int .i64 i), (6, .int .i64 j)]) [] := by
  refine up_ind ?_ fun j hj ih => ?_
  · rw [run_round, run_unfold l20_CutCausal.b1.eq_1]
    simp (maxSteps := 2000000) only [go_sem, ↓reduceIte, Nat.reduceLT, Nat.reduceEqDiff, Nat.reduceLeDiff, Nat.reduceAdd, Nat.reduceSub, Nat.reduceMul, Int.reduceLT, Int.reduceLE, Int.reduceEq, Int.reduceNeg, run_unfold l20_CutCausal.c0.eq_1, run_unfold l20_CutCausal.c1.eq_1, run_unfold l20_CutCausal.c2.eq_1, l20_CutCausal.k0, l20_CutCausal.k1, l20_CutCausal.k2, wrap_succ (show i < 9223372036854775807 by omega)]
    exact next
  · rw [run_round, run_unfold l20_CutCausal.b1.eq_1]
    have fin := causal_k hl hc hi hj ih 0 (by omega)
    by_cases hij : i = j
    · subst hij
      simp (maxSteps := 2000000) only [go_sem, ↓reduceIte, Nat.reduceLT, Nat.reduceEqDiff, Nat.reduceLeDiff, Nat.reduceAdd, Nat.reduceSub, Nat.reduceMul, Int.reduceLT, Int.reduceLE, Int.reduceEq, Int.reduceNeg, hi, hc.irr i hi]
      exact fin
    · have hij' : ¬ (i : Int) = (j : Int) := by omega
      have h0 := hc.tot i j hi hj hij
      cases h1 : sees l[i] l[j]
      · have h00 : (befC l[i] l[j] == befC l[j] l[i]) = false := by rw [h0]; cases befC l[i] l[j] <;> rfl
        simp (maxSteps := 2000000) only [go_sem, ↓reduceIte, Nat.reduceLT, Nat.reduceEqDiff, Nat.reduceLeDiff, Nat.reduceAdd, Nat.reduceSub, Nat.reduceMul, Int.reduceLT, Int.reduceLE, Int.reduceEq, Int.reduceNeg, hi, hj, hij', h1, h00]
        exact fin
      · obtain ⟨h2, h3, h4⟩ := hc.see i j hi hj h1
        have h5 : befC l[i] l[j] = false := by rw [h2] at h0; simpa using h0.symm
        simp (maxSteps := 2000000) only [go_sem, ↓reduceIte, Nat.reduceLT, Nat.reduceEqDiff, Nat.reduceLeDiff, Nat.reduceAdd, Nat.reduceSub, Nat.reduceMul, Int.reduceLT, Int.reduceLE, Int.reduceEq, Int.reduceNeg, hi, hj, hij', h1, h2, h3, h4, h5, show (false == true) = false from rfl]
        exact fin

theorem causal_i {l : List Com} (hl : Fits l) (hc : Causal l) : ∀ i, i ≤ l.length →
    Run T (Ret [.tmp 2] yes) (.inLoop l20_CutCausal.b0 :: l20_CutCausal.k0) (mkE 167 [(3, .bool true), (4, coms .lst l), (5, .int .i64 i)]) [] := by
  refine up_ind ?_ fun i hi ih => ?_
  · rw [run_round, run_unfold l20_CutCausal.b0.eq_1]
    simp (maxSteps := 2000000) only [go_sem, ↓reduceIte, Nat.reduceLT, Nat.reduceEqDiff, Nat.reduceLeDiff, Nat.reduceAdd, Nat.reduceSub, Nat.reduceMul, Int.reduceLT, Int.reduceLE, Int.reduceEq, Int.reduceNeg, run_unfold l20_CutCausal.c0.eq_1, run_unfold l20_CutCausal.c1.eq_1, run_unfold l20_CutCausal.c2.eq_1, l20_CutCausal.k0, l20_CutCausal.k1, l20_CutCausal.k2]
  · rw [run_round, run_unfold l20_CutCausal.b0.eq_1]
    have h1 := hc.irr i hi
    have h2 := hc.irr' i hi
    have h3 := hc.wf i hi
    simp (maxSteps := 2000000) only [go_sem, ↓reduceIte, Nat.reduceLT, Nat.reduceEqDiff, Nat.reduceLeDiff, Nat.reduceAdd, Nat.reduceSub, Nat.reduceMul, Int.reduceLT, Int.reduceLE, Int.reduceEq, Int.reduceNeg, run_unfold l20_CutCausal.c0.eq_1, run_unfold l20_CutCausal.c1.eq_1, run_unfold l20_CutCausal.c2.eq_1, l20_CutCausal.k0, l20_CutCausal.k1, l20_CutCausal.k2, hi, h1, h2, h3]
    exact causal_j hl hc hi ih 0 (by omega)

theorem l20_CutCausal_true {f : SlF} {b : List Nat} (hb : Fits b) (hb8 : ∀ n ∈ b, n < 256) (hc : Causal (headers b)) : Cw T false i_l20_CutCausal [bytesV f b] [] [] yes := by
  have hl : Fits (headers b) := by have := headers_fits b; unfold Fits; omega
  rw [cw_enter T_l20_CutCausal (by simp), run_unfold l20_CutCausal.main.eq_1]
  simp (maxSteps := 2000000) only [go_sem, ↓reduceIte, Nat.reduceLT, Nat.reduceEqDiff, Nat.reduceLeDiff, Nat.reduceAdd, Nat.reduceSub, Nat.reduceMul, Int.reduceLT, Int.reduceLE, Int.reduceEq, Int.reduceNeg, r20_Headers_call (f := f) hb hb8, hl, hc.cons]
  exact causal_i hl hc 0 (by omega)

end Go.Abs
