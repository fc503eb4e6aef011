/- Parts of the proof: C20E, C20M, C20N, C20P, C20Q, C20R, C20T, C20U, C20V, C20W, C20Z, C20ZA. -/
import Derived.Test.YtaiibojjndeipaaJC20A
import Derived.KernelRfl
set_option linter.all false
/- The orders and closures of chapter 20's examples, reckoned by the kernel. -/
set_option linter.unusedSimpArgs false
namespace Go.Abs
open Go

theorem cw_eval {T : FuncId → Option AFunc} {f : FuncId} {n m : Nat} {rs : List ARes} {c : ACode} {args : List AVal} {v : AVal} (hf : T f = some ⟨m, rs, c⟩) (hp : AVal.pures args = true) (h : evCall T n true f args [] = some (v, [])) {lv : List Nat} {σ : Sto} {R : Post} : Cw T true f args lv σ R ↔ R v σ := by
  refine Cw.iff_of fun R hR => ?_
  have h1 : Cw T true f args [] [] (fun u τ => u = v ∧ τ = []) := ⟨n, evCall_sound T n _ _ _ _ _ _ h _ ⟨rfl, rfl⟩⟩
  rw [cw_pure hf (mapM_snap_pure hp)] at h1 ⊢
  refine h1.mono fun x e σ' hx => ret_mono (fun u τ hu => ?_) hx
  cases hsn : snapA τ snapDepth u with
  | none => rw [hsn] at hu; exact hu.elim
  | some v' =>
    rw [hsn] at hu
    obtain ⟨_, rfl, _⟩ := hu
    exact ⟨.inl hp, hR⟩

def c0 : Com := ⟨0, 2, .lst, [1, 1, 0, 0, 0, 0], 0, .nils, rfl, rfl⟩
def c1 : Com := ⟨0, 1, .lst, zeros, 0, .nils, rfl, rfl⟩
def c2 : Com := ⟨1, 1, .lst, zeros, 0, .nils, rfl, rfl⟩
def exL : List Com := [c0, c1, c2]
def exL1 : List Com := [c0]
def eAll : List Int := [2, 1, 0, 0, 0, 0]
def eOne : List Int := [1, 0, 0, 0, 0, 0]
def eTwo : List Int := [2, 0, 0, 0, 0, 0]

def e120 : List Int := [1, 2, 0]

theorem e_order1 : evCall T 40 true i_l20_order [coms .lst exL, ints .lst eAll] [] = some (.agg [ints .lst e120, .int .i64 0], []) := by kernel_rfl
theorem e_order2 : evCall T 40 true i_l20_order [coms .lst exL, ints .lst eTwo] [] = some (.agg [.nils, .int .i64 200], []) := by kernel_rfl
theorem e_clos1 : evCall T 40 true i_l20_closure [coms .lst exL, .list 2 [.agg [.int .i64 0, .int .i64 2]]] [] = some (.agg [ints .lst eAll, .int .i64 0], []) := by kernel_rfl
theorem e_clos2 : evCall T 40 true i_l20_closure [coms .lst exL, .list 2 [.agg [.int .i64 2, .int .i64 1]]] [] = some (.agg [.nils, .int .i64 4], []) := by kernel_rfl
theorem e_clos3 : evCall T 40 true i_l20_closure [coms .lst exL1, .list 2 [.agg [.int .i64 0, .int .i64 2]]] [] = some (.agg [.nils, .int .i64 200], []) := by kernel_rfl

section
variable {Q : Post3} {k : List Item} {os : List AOper} {d : Option Nat} {e : Env} {σ : Sto}
@[go_sem] theorem k_order1 : CallK T Q k os d e σ true i_l20_order [coms .lst exL, ints .lst eAll] ↔ Run T Q (.ops os :: k) (put e d (.agg [ints .lst e120, .int .i64 0])) σ := callK_of (cw_eval T_l20_order (by rfl) e_order1)
@[go_sem] theorem k_order2 : CallK T Q k os d e σ true i_l20_order [coms .lst exL, ints .lst eTwo] ↔ Run T Q (.ops os :: k) (put e d (.agg [.nils, .int .i64 200])) σ := callK_of (cw_eval T_l20_order (by rfl) e_order2)
@[go_sem] theorem k_clos1 : CallK T Q k os d e σ true i_l20_closure [coms .lst exL, .list 2 [.agg [.int .i64 0, .int .i64 2]]] ↔ Run T Q (.ops os :: k) (put e d (.agg [ints .lst eAll, .int .i64 0])) σ := callK_of (cw_eval T_l20_closure (by rfl) e_clos1)
@[go_sem] theorem k_clos2 : CallK T Q k os d e σ true i_l20_closure [coms .lst exL, .list 2 [.agg [.int .i64 2, .int .i64 1]]] ↔ Run T Q (.ops os :: k) (put e d (.agg [.nils, .int .i64 4])) σ := callK_of (cw_eval T_l20_closure (by rfl) e_clos2)
@[go_sem] theorem k_clos3 : CallK T Q k os d e σ true i_l20_closure [coms .lst exL1, .list 2 [.agg [.int .i64 0, .int .i64 2]]] ↔ Run T Q (.ops os :: k) (put e d (.agg [.nils, .int .i64 200])) σ := callK_of (cw_eval T_l20_closure (by rfl) e_clos3)
end
end Go.Abs
/- Chapter 20's examples are true. -/
set_option linter.unusedSimpArgs false
set_option linter.unusedVariables false
namespace Go.Abs
open Go

theorem examples_head {Q : Post3} (h : Run T Q [.code l20_examples.c2] (mkE 210 [(1, coms .lst exL), (2, ints .lst eAll), (3, ints .lst eOne), (4, ints .lst eTwo)]) [.dead, .dead, .dead, .dead, .dead]) : Run T Q [.code l20_examples.main] (mkE 210 []) [] := by
  rw [run_unfold l20_examples.main.eq_1]
  simp (maxSteps := 2000000) only [go_sem, ↓reduceIte, Nat.reduceLT, Nat.reduceEqDiff, Nat.reduceLeDiff, Nat.reduceAdd, Nat.reduceSub, Nat.reduceMul, Int.reduceLT, Int.reduceLE, Int.reduceEq, Int.reduceNeg]
  refine afterG_of (v := coms .lst exL) (σ' := [.dead, .dead]) (by rfl) ?_
  simp (maxSteps := 2000000) only [go_sem, ↓reduceIte, Nat.reduceLT, Nat.reduceEqDiff, Nat.reduceLeDiff, Nat.reduceAdd, Nat.reduceSub, Nat.reduceMul, Int.reduceLT, Int.reduceLE, Int.reduceEq, Int.reduceNeg]
  refine afterG_of (v := ints .lst eAll) (σ' := [.dead, .dead, .dead, .cells false [int 1, int 0, int 0, int 0, int 0, int 0], .cells false [int 2, int 0, int 0, int 0, int 0, int 0]]) (by rfl) ?_
  simp (maxSteps := 2000000) only [go_sem, ↓reduceIte, Nat.reduceLT, Nat.reduceEqDiff, Nat.reduceLeDiff, Nat.reduceAdd, Nat.reduceSub, Nat.reduceMul, Int.reduceLT, Int.reduceLE, Int.reduceEq, Int.reduceNeg]
  refine afterG_of (v := ints .lst eOne) (σ' := [.dead, .dead, .dead, .dead, .cells false [int 2, int 0, int 0, int 0, int 0, int 0]]) (by rfl) ?_
  simp (maxSteps := 2000000) only [go_sem, ↓reduceIte, Nat.reduceLT, Nat.reduceEqDiff, Nat.reduceLeDiff, Nat.reduceAdd, Nat.reduceSub, Nat.reduceMul, Int.reduceLT, Int.reduceLE, Int.reduceEq, Int.reduceNeg]
  refine afterG_of (v := ints .lst eTwo) (σ' := [.dead, .dead, .dead, .dead, .dead]) (by rfl) ?_
  simp (maxSteps := 2000000) only [go_sem, ↓reduceIte, Nat.reduceLT, Nat.reduceEqDiff, Nat.reduceLeDiff, Nat.reduceAdd, Nat.reduceSub, Nat.reduceMul, Int.reduceLT, Int.reduceLE, Int.reduceEq, Int.reduceNeg]
  exact h

def allL : List Int := [999, 999, 999, 999, 999, 999]
theorem x_fits : Fits exL := by unfold Fits; decide
theorem x_closed1 : closedP exL eAll = true := by decide +kernel
theorem x_closed2 : closedP exL eOne = true := by decide +kernel
theorem x_closed3 : closedP exL eTwo = false := by decide +kernel
theorem x_great1 : reachF exL 6000 eTwo = eOne := by decide +kernel
theorem x_great2 : reachF exL 6000 allL = eAll := by decide +kernel
theorem x_cons1 : consistentP exL = true := by decide +kernel
def exL2 : List Com := [c0, c1]
theorem x_cons2 : consistentP exL2 = false := by decide +kernel
theorem x_v1 : valid eTwo = true := by decide
theorem x_v2 : valid eAll = true := by decide
theorem x_v3 : valid eOne = true := by decide
theorem x_sl2 {σ : Sto} : sliceV 5 (coms .lst exL) none (some (.int .i64 2)) none σ = some (coms .lst exL2, σ) := rfl
theorem x_sl1 {σ : Sto} : sliceV 5 (coms .lst exL) none (some (.int .i64 1)) none σ = some (coms .lst exL1, σ) := rfl
theorem x_fits2 : Fits exL2 := by unfold Fits; decide
theorem x_small {a b c d e f : Int} : Fits [a, b, c, d, e, f] := by unfold Fits; simp

theorem x_small3 {a b c : Int} : Fits [a, b, c] := by unfold Fits; simp
theorem x_v4 : valid allL = true := by decide
theorem x_f1 : Fits eOne := x_small
theorem x_f2 : Fits eAll := x_small
theorem x_f3 : Fits eTwo := x_small
theorem x_f4 : Fits e120 := x_small3
theorem x_lit : AVal.list 1 [.int .i64 1, .int .i64 2, .int .i64 0] = ints .lst e120 := rfl
theorem x_allv : ints .lst [999, 999, 999, 999, 999, 999] = ints .lst allL := rfl
theorem x_eq (a : List Int) : decide (a = a) = true := by simp

theorem x_allc {Q : Post3} {k : List Item} {os : List AOper} {d : Option Nat} {e : Env} {σ : Sto} : CallK T Q k os d e σ true i_r20_All [] ↔ Run T Q (.ops os :: k) (put e d (ints .lst allL)) σ := r20_All_call
attribute [local go_sem high] x_allc
def eAll5 : List Int := [2, 1, 0, 0, 0]
theorem x_sl5 {σ : Sto} : sliceV 1 (ints .lst eAll) none (some (.int .i64 5)) none σ = some (ints .lst eAll5, σ) := rfl
theorem x_v5 : valid eAll5 = false := by decide
theorem x_leq1 : leq eOne eAll = true := by decide
theorem x_leq2 : leq eAll eOne = false := by decide
theorem x_has1 : has eAll ⟨1, 1⟩ = true := by decide
theorem x_has2 : has eAll ⟨1, 2⟩ = false := by decide
theorem x_at0 {σ : Sto} : iaddrV 5 (coms .lst exL) (.int .i64 0) σ = some (.fptr [.int .i64 c0.st, .int .i64 c0.seq, ints c0.pf c0.past, .int .i64 c0.ver, c0.ops], σ) := rfl
theorem x_at1 {σ : Sto} : iaddrV 5 (coms .lst exL) (.int .i64 1) σ = some (.fptr [.int .i64 c1.st, .int .i64 c1.seq, ints c1.pf c1.past, .int .i64 c1.ver, c1.ops], σ) := rfl
theorem x_at2 {σ : Sto} : iaddrV 5 (coms .lst exL) (.int .i64 2) σ = some (.fptr [.int .i64 c2.st, .int .i64 c2.seq, ints c2.pf c2.past, .int .i64 c2.ver, c2.ops], σ) := rfl
theorem x_sees1 : sees c0 c2 = true := by decide
theorem x_sees2 : sees c1 c2 = false := by decide
theorem x_bef1 : befC c1 c2 = true := by decide
theorem x_bef2 : befC c2 c1 = false := by decide
theorem x_wf0 : wf c0 = true := by decide
def cz : Com := ⟨0, 0, .nil, [], 0, .nils, rfl, rfl⟩
theorem x_wfz {Q : Post3} {k : List Item} {os : List AOper} {d : Option Nat} {e : Env} {σ : Sto} : CallK T Q k os d e σ true i_cut_WellFormed [.agg [.int .i64 0, .int .i64 0, .nils, .int .i64 0, .nils]] ↔ Run T Q (.ops os :: k) (put e d (.bool false)) σ := cut_WellFormed_call (c := cz)
theorem x_max : maxL eOne eAll = eAll := by decide
theorem x_min : minL eTwo eAll = eTwo := by decide
theorem x_jn {Q : Post3} {k : List Item} {os : List AOper} {d : Option Nat} {e : Env} {σ : Sto} : CallK T Q k os d e σ true i_l20_join [ints .lst eOne, .nils] ↔ Run T Q (.ops os :: k) (put e d (.agg [.nils, .int .i64 200])) σ := l20_join_call (f := .lst) (g := .nil) (a := eOne) (b := [])

set_option maxRecDepth 100000 in
theorem examples_mid : Run T (Res [.tmp 0] (.bool true)) [.code l20_examples.c2] (mkE 210 [(1, coms .lst exL), (2, ints .lst eAll), (3, ints .lst eOne), (4, ints .lst eTwo)]) [.dead, .dead, .dead, .dead, .dead] := by
  rw [run_unfold l20_examples.c2.eq_1]
  simp (maxSteps := 2000000) only [go_sem, ↓reduceIte, Nat.reduceLT, Nat.reduceEqDiff, Nat.reduceLeDiff, Nat.reduceAdd, Nat.reduceSub, Nat.reduceMul, Int.reduceLT, Int.reduceLE, Int.reduceEq, Int.reduceNeg, x_fits, x_closed1, x_closed2, x_closed3, greatestP, x_great1, x_great2, x_v4, x_lit, x_allc, x_v1, x_v2, x_v3, x_cons1, x_cons2, x_sl2, x_fits2, x_f1, x_f2, x_f3, x_f4, x_eq]
  simp (maxSteps := 2000000) only [go_sem, ↓reduceIte, Nat.reduceLT, Nat.reduceEqDiff, Nat.reduceLeDiff, Nat.reduceAdd, Nat.reduceSub, Nat.reduceMul, Int.reduceLT, Int.reduceLE, Int.reduceEq, Int.reduceNeg, run_unfold l20_examples.c0.eq_1, run_unfold l20_examples.c1.eq_1, run_unfold l20_examples.c2.eq_1, x_lit, x_f1, x_f2, x_f3, x_f4, x_eq, x_sl1, x_sl5, x_v5, x_leq1, x_leq2, x_has1, x_has2, x_at0, x_at1, x_at2, x_sees1, x_sees2, x_bef1, x_bef2, x_wf0, x_wfz, x_max, x_min, x_jn, cutOf, x_v1, x_v2, x_v3, x_fits]
  refine afterG_of (v := ints .lst e120) (by rfl) ?_
  simp (maxSteps := 2000000) only [go_sem, ↓reduceIte, Nat.reduceLT, Nat.reduceEqDiff, Nat.reduceLeDiff, Nat.reduceAdd, Nat.reduceSub, Nat.reduceMul, Int.reduceLT, Int.reduceLE, Int.reduceEq, Int.reduceNeg, run_unfold l20_examples.c0.eq_1, run_unfold l20_examples.c1.eq_1, run_unfold l20_examples.c2.eq_1, x_lit, x_f1, x_f2, x_f3, x_f4, x_eq, x_sl1, x_sl5, x_v5, x_leq1, x_leq2, x_has1, x_has2, x_at0, x_at1, x_at2, x_sees1, x_sees2, x_bef1, x_bef2, x_wf0, x_wfz, x_max, x_min, x_jn, cutOf, x_v1, x_v2, x_v3, x_fits]
  refine afterG_of (v := .list 2 [.agg [.int .i64 0, .int .i64 2]]) (by rfl) ?_
  simp (maxSteps := 2000000) only [go_sem, ↓reduceIte, Nat.reduceLT, Nat.reduceEqDiff, Nat.reduceLeDiff, Nat.reduceAdd, Nat.reduceSub, Nat.reduceMul, Int.reduceLT, Int.reduceLE, Int.reduceEq, Int.reduceNeg, run_unfold l20_examples.c0.eq_1, run_unfold l20_examples.c1.eq_1, run_unfold l20_examples.c2.eq_1, x_lit, x_f1, x_f2, x_f3, x_f4, x_eq, x_sl1, x_sl5, x_v5, x_leq1, x_leq2, x_has1, x_has2, x_at0, x_at1, x_at2, x_sees1, x_sees2, x_bef1, x_bef2, x_wf0, x_wfz, x_max, x_min, x_jn, cutOf, x_v1, x_v2, x_v3, x_fits]
  refine afterG_of (v := .list 2 [.agg [.int .i64 2, .int .i64 1]]) (by rfl) ?_
  simp (maxSteps := 2000000) only [go_sem, ↓reduceIte, Nat.reduceLT, Nat.reduceEqDiff, Nat.reduceLeDiff, Nat.reduceAdd, Nat.reduceSub, Nat.reduceMul, Int.reduceLT, Int.reduceLE, Int.reduceEq, Int.reduceNeg, run_unfold l20_examples.c0.eq_1, run_unfold l20_examples.c1.eq_1, run_unfold l20_examples.c2.eq_1, x_lit, x_f1, x_f2, x_f3, x_f4, x_eq, x_sl1, x_sl5, x_v5, x_leq1, x_leq2, x_has1, x_has2, x_at0, x_at1, x_at2, x_sees1, x_sees2, x_bef1, x_bef2, x_wf0, x_wfz, x_max, x_min, x_jn, cutOf, x_v1, x_v2, x_v3, x_fits]
  refine afterG_of (v := .list 2 [.agg [.int .i64 0, .int .i64 2]]) (by rfl) ?_
  simp (maxSteps := 2000000) only [go_sem, ↓reduceIte, Nat.reduceLT, Nat.reduceEqDiff, Nat.reduceLeDiff, Nat.reduceAdd, Nat.reduceSub, Nat.reduceMul, Int.reduceLT, Int.reduceLE, Int.reduceEq, Int.reduceNeg, run_unfold l20_examples.c0.eq_1, run_unfold l20_examples.c1.eq_1, run_unfold l20_examples.c2.eq_1, x_lit, x_f1, x_f2, x_f3, x_f4, x_eq, x_sl1, x_sl5, x_v5, x_leq1, x_leq2, x_has1, x_has2, x_at0, x_at1, x_at2, x_sees1, x_sees2, x_bef1, x_bef2, x_wf0, x_wfz, x_max, x_min, x_jn, cutOf, x_v1, x_v2, x_v3, x_fits]

theorem l20_examples_spec  {lv : List Nat} {σ : Sto} {R : Post} : Cw T true i_l20_examples [] lv σ R ↔ R (.bool true) σ := by
  refine cw_intro T_l20_examples rfl (by simp) ?_
  exact examples_head examples_mid
@[go_sem] theorem l20_examples_call  {Q : Post3} {k : List Item} {os : List AOper} {d : Option Nat} {e : Env} {σ : Sto} : CallK T Q k os d e σ true i_l20_examples [] ↔ Run T Q (.ops os :: k) (put e d (.bool true)) σ := l20_examples_spec


end Go.Abs
/- The walk of CutCausal. -/
set_option linter.unusedSimpArgs false
set_option linter.unusedVariables false
set_option maxRecDepth 100000
set_option maxHeartbeats 4000000
namespace Go.Abs
open Go

structure Causal (l : List Com) : Prop where
  cons : consistentP l = true
  wf : ∀ (i : Nat) (h : i < l.length), wf l[i] = true
  irr : ∀ (i : Nat) (h : i < l.length), sees l[i] l[i] = false
  irr' : ∀ (i : Nat) (h : i < l.length), befC l[i] l[i] = false
  tot : ∀ (i j : Nat) (hi : i < l.length) (hj : j < l.length), i ≠ j → befC l[j] l[i] = !befC l[i] l[j]
  see : ∀ (i j : Nat) (hi : i < l.length) (hj : j < l.length), sees l[i] l[j] = true → befC l[j] l[i] = true ∧ leq l[j].past l[i].past = true ∧ sees l[j] l[i] = false
  trans : ∀ (i j k : Nat) (hi : i < l.length) (hj : j < l.length) (hk : k < l.length), sees l[i] l[j] = true → sees l[j] l[k] = true → sees l[i] l[k] = true

abbrev yes : Post := fun v _ => v = .bool true

theorem causal_k {l : List Com} (hl : Fits l) (hc : Causal l) {i j : Nat} (hi : i < l.length) (hj : j < l.length)
    (next : Run T (Ret [.tmp 2] yes) (.inLoop l20_CutCausal.b1 :: l20_CutCausal.k1) (mkE 167 [(3, .bool true), (4, coms .lst l), (5, .int .i64 i), (6, .int .i64 ((j + 1 : Nat) : Int))]) []) : ∀ k, k ≤ l.length →
    Run T (Ret [.tmp 2] yes) (.inLoop l20_CutCausal.b2 :: l20_CutCausal.k2) (mkE 167 [(3, .bool true), (4, coms .lst l), (5, .int .i64 i), (6, .int .i64 j), (7, .int .i64 k)]) [] := by
  refine up_ind ?_ fun k hk ih => ?_
  · rw [run_round, run_unfold l20_CutCausal.b2.eq_1]
    simp (maxSteps := 2000000) only [go_sem, ↓reduceIte, Nat.reduceLT, Nat.reduceEqDiff, Nat.reduceLeDiff, Nat.reduceAdd, Nat.reduceSub, Nat.reduceMul, Int.reduceLT, Int.reduceLE, Int.reduceEq, Int.reduceNeg, run_unfold l20_CutCausal.c0.eq_1, run_unfold l20_CutCausal.c1.eq_1, run_unfold l20_CutCausal.c2.eq_1, l20_CutCausal.k0, l20_CutCausal.k1, l20_CutCausal.k2, wrap_succ (show j < 9223372036854775807 by omega)]
    exact next
  · rw [run_round, run_unfold l20_CutCausal.b2.eq_1]
    have hw := wrap_succ (show k < 9223372036854775807 by omega)
    cases h1 : sees l[i] l[j]
    · simp (maxSteps := 2000000) only [go_sem, ↓reduceIte, Nat.reduceLT, Nat.reduceEqDiff, Nat.reduceLeDiff, Nat.reduceAdd, Nat.reduceSub, Nat.reduceMul, Int.reduceLT, Int.reduceLE, Int.reduceEq, Int.reduceNeg, hi, hj, hk, h1, hw]
      exact ih
    · cases h2 : sees l[j] l[k]
      · simp (maxSteps := 2000000) only [go_sem, ↓reduceIte, Nat.reduceLT, Nat.reduceEqDiff, Nat.reduceLeDiff, Nat.reduceAdd, Nat.reduceSub, Nat.reduceMul, Int.reduceLT, Int.reduceLE, Int.reduceEq, Int.reduceNeg, hi, hj, hk, h1, h2, hw]
        exact ih
      · have h3 := hc.trans i j k hi hj hk h1 h2
        simp (maxSteps := 2000000) only [go_sem, ↓reduceIte, Nat.reduceLT, Nat.reduceEqDiff, Nat.reduceLeDiff, Nat.reduceAdd, Nat.reduceSub, Nat.reduceMul, Int.reduceLT, Int.reduceLE, Int.reduceEq, Int.reduceNeg, hi, hj, hk, h1, h2, h3, hw]
        exact ih

theorem causal_j {l : List Com} (hl : Fits l) (hc : Causal l) {i : Nat} (hi : i < l.length)
    (next : Run T (Ret [.tmp 2] yes) (.inLoop l20_CutCausal.b0 :: l20_CutCausal.k0) (mkE 167 [(3, .bool true), (4, coms .lst l), (5, .int .i64 ((i + 1 : Nat) : Int))]) []) : ∀ j, j ≤ l.length →
    Run T (Ret [.tmp 2] yes) (.inLoop l20_CutCausal.b1 :: l20_CutCausal.k1) (mkE 167 [(3, .bool true), (4, coms .lst l), (5, .int .i64 i), (6, .int .i64 j)]) [] := by
  refine up_ind ?_ fun j hj ih => ?_
  · rw [run_round, run_unfold l20_CutCausal.b1.eq_1]
    simp (maxSteps := 2000000) only [go_sem, ↓reduceIte, Nat.reduceLT, Nat.reduceEqDiff, Nat.reduceLeDiff, Nat.reduceAdd, Nat.reduceSub, Nat.reduceMul, Int.reduceLT, Int.reduceLE, Int.reduceEq, Int.reduceNeg, run_unfold l20_CutCausal.c0.eq_1, run_unfold l20_CutCausal.c1.eq_1, run_unfold l20_CutCausal.c2.eq_1, l20_CutCausal.k0, l20_CutCausal.k1, l20_CutCausal.k2, wrap_succ (show i < 9223372036854775807 by omega)]
    exact next
  · rw [run_round, run_unfold l20_CutCausal.b1.eq_1]
    have fin := causal_k hl hc hi hj ih 0 (by omega)
    by_cases hij : i = j
    · subst hij
      simp (maxSteps := 2000000) only [go_sem, ↓reduceIte, Nat.reduceLT, Nat.reduceEqDiff, Nat.reduceLeDiff, Nat.reduceAdd, Nat.reduceSub, Nat.reduceMul, Int.reduceLT, Int.reduceLE, Int.reduceEq, Int.reduceNeg, hi, hc.irr i hi]
      exact fin
    · have hij' : ¬ (i : Int) = (j : Int) := by omega
      have h0 := hc.tot i j hi hj hij
      cases h1 : sees l[i] l[j]
      · have h00 : (befC l[i] l[j] == befC l[j] l[i]) = false := by rw [h0]; cases befC l[i] l[j] <;> rfl
        simp (maxSteps := 2000000) only [go_sem, ↓reduceIte, Nat.reduceLT, Nat.reduceEqDiff, Nat.reduceLeDiff, Nat.reduceAdd, Nat.reduceSub, Nat.reduceMul, Int.reduceLT, Int.reduceLE, Int.reduceEq, Int.reduceNeg, hi, hj, hij', h1, h00]
        exact fin
      · obtain ⟨h2, h3, h4⟩ := hc.see i j hi hj h1
        have h5 : befC l[i] l[j] = false := by rw [h2] at h0; simpa using h0.symm
        simp (maxSteps := 2000000) only [go_sem, ↓reduceIte, Nat.reduceLT, Nat.reduceEqDiff, Nat.reduceLeDiff, Nat.reduceAdd, Nat.reduceSub, Nat.reduceMul, Int.reduceLT, Int.reduceLE, Int.reduceEq, Int.reduceNeg, hi, hj, hij', h1, h2, h3, h4, h5, show (false == true) = false from rfl]
        exact fin

theorem causal_i {l : List Com} (hl : Fits l) (hc : Causal l) : ∀ i, i ≤ l.length →
    Run T (Ret [.tmp 2] yes) (.inLoop l20_CutCausal.b0 :: l20_CutCausal.k0) (mkE 167 [(3, .bool true), (4, coms .lst l), (5, .int .i64 i)]) [] := by
  refine up_ind ?_ fun i hi ih => ?_
  · rw [run_round, run_unfold l20_CutCausal.b0.eq_1]
    simp (maxSteps := 2000000) only [go_sem, ↓reduceIte, Nat.reduceLT, Nat.reduceEqDiff, Nat.reduceLeDiff, Nat.reduceAdd, Nat.reduceSub, Nat.reduceMul, Int.reduceLT, Int.reduceLE, Int.reduceEq, Int.reduceNeg, run_unfold l20_CutCausal.c0.eq_1, run_unfold l20_CutCausal.c1.eq_1, run_unfold l20_CutCausal.c2.eq_1, l20_CutCausal.k0, l20_CutCausal.k1, l20_CutCausal.k2]
  · rw [run_round, run_unfold l20_CutCausal.b0.eq_1]
    have h1 := hc.irr i hi
    have h2 := hc.irr' i hi
    have h3 := hc.wf i hi
    simp (maxSteps := 2000000) only [go_sem, ↓reduceIte, Nat.reduceLT, Nat.reduceEqDiff, Nat.reduceLeDiff, Nat.reduceAdd, Nat.reduceSub, Nat.reduceMul, Int.reduceLT, Int.reduceLE, Int.reduceEq, Int.reduceNeg, run_unfold l20_CutCausal.c0.eq_1, run_unfold l20_CutCausal.c1.eq_1, run_unfold l20_CutCausal.c2.eq_1, l20_CutCausal.k0, l20_CutCausal.k1, l20_CutCausal.k2, hi, h1, h2, h3]
    exact causal_j hl hc hi ih 0 (by omega)

theorem l20_CutCausal_true {f : SlF} {b : List Nat} (hb : Fits b) (hb8 : ∀ n ∈ b, n < 256) (hc : Causal (headers b)) : Cw T false i_l20_CutCausal [bytesV f b] [] [] yes := by
  have hl : Fits (headers b) := by have := headers_fits b; unfold Fits; omega
  rw [cw_enter T_l20_CutCausal (by simp), run_unfold l20_CutCausal.main.eq_1]
  simp (maxSteps := 2000000) only [go_sem, ↓reduceIte, Nat.reduceLT, Nat.reduceEqDiff, Nat.reduceLeDiff, Nat.reduceAdd, Nat.reduceSub, Nat.reduceMul, Int.reduceLT, Int.reduceLE, Int.reduceEq, Int.reduceNeg, r20_Headers_call (f := f) hb hb8, hl, hc.cons]
  exact causal_i hl hc 0 (by omega)

end Go.Abs
/- Plain laws of chapter 20: the lists that the reference makes are consistent. -/
set_option linter.unusedSimpArgs false
set_option linter.unusedVariables false
namespace Go.Abs
open Go

def le (a b : List Int) : Prop := ∀ t : Nat, a.getD t 0 ≤ b.getD t 0
def Clo (out : List Com) (R : List Int) : Prop := ∀ (t : Nat) (q : Int), 1 ≤ q → q ≤ R.getD t 0 → ∃ c ∈ out, c.st = (t : Int) ∧ c.seq = q ∧ le (own c) R

theorem getD_set {a : List Int} {s t : Nat} {v : Int} (h : s < a.length) : (a.set s v).getD t 0 = if t = s then v else a.getD t 0 := by
  simp only [List.getD_eq_getElem?_getD, List.getElem?_set]
  by_cases e : t = s
  · subst e; simp [h]
  · rw [if_neg (Ne.symm e), if_neg e]
theorem getD_maxL {a b : List Int} (h : a.length = b.length) (t : Nat) : (maxL a b).getD t 0 = if a.getD t 0 < b.getD t 0 then b.getD t 0 else a.getD t 0 := by
  simp only [maxL, List.getD_eq_getElem?_getD, List.getElem?_zipWith]
  by_cases ht : t < a.length
  · simp [List.getElem?_eq_getElem ht, List.getElem?_eq_getElem (h ▸ ht : t < b.length)]
  · simp [List.getElem?_eq_none (show a.length ≤ t by omega), List.getElem?_eq_none (show b.length ≤ t by omega)]
theorem getD_mem {a : List Int} {t : Nat} (h : t < a.length) : a.getD t 0 ∈ a := by
  rw [List.getD_eq_getElem?_getD, List.getElem?_eq_getElem h]; exact List.getElem_mem h

theorem Clo.join {out : List Com} {a b : List Int} (h : a.length = b.length) (ha : Clo out a) (hb : Clo out b) : Clo out (maxL a b) := by
  intro t q h1 h2
  rw [getD_maxL h] at h2
  have la : le a (maxL a b) := fun t => by rw [getD_maxL h]; split <;> omega
  have lb : le b (maxL a b) := fun t => by rw [getD_maxL h]; split <;> omega
  split at h2
  · obtain ⟨c, hc, e1, e2, e3⟩ := hb t q h1 h2
    exact ⟨c, hc, e1, e2, fun t => Int.le_trans (e3 t) (lb t)⟩
  · obtain ⟨c, hc, e1, e2, e3⟩ := ha t q h1 h2
    exact ⟨c, hc, e1, e2, fun t => Int.le_trans (e3 t) (la t)⟩
theorem Clo.mono {out out' : List Com} {a : List Int} (h : Clo out a) (hs : ∀ c ∈ out, c ∈ out') : Clo out' a := fun t q h1 h2 => by
  obtain ⟨c, hc, e⟩ := h t q h1 h2
  exact ⟨c, hs c hc, e⟩

structure CGood (out : List Com) (c : Com) : Prop where
  s0 : 0 ≤ c.st
  s3 : c.st < 3
  len : c.past.length = 6
  row : ∀ x ∈ c.past, 0 ≤ x ∧ x ≤ 12
  seq : c.seq = c.past.getD c.st.toNat 0 + 1
  clo : Clo out c.past
structure HGood (x : HS) : Prop where
  inv : HInv x.out.length x.K
  clo : ∀ R ∈ x.K, Clo x.out R
  coms : ∀ c ∈ x.out, CGood x.out c
  top : ∀ c ∈ x.out, c.seq ≤ (x.K.getD c.st.toNat []).getD c.st.toNat 0
  nd : x.out.Pairwise fun a b => ¬ (a.st = b.st ∧ a.seq = b.seq)

theorem getD_setL {K : List (List Int)} {s t : Nat} {v : List Int} (h : s < K.length) : (K.set s v).getD t [] = if t = s then v else K.getD t [] := by
  simp only [List.getD_eq_getElem?_getD, List.getElem?_set]
  by_cases e : t = s
  · subst e; simp [h]
  · rw [if_neg (Ne.symm e), if_neg e]

theorem HGood.next {x : HS} (h : HGood x) (hn : x.out.length < 12) {s t u : Nat} (hs : s < 3) (ht : t < 3) : HGood (hnext x s t u) := by
  obtain ⟨K, hK⟩ : ∃ K, hjoin x.K s t u = K := ⟨_, rfl⟩
  have hI := h.inv.join (u := u) hs ht
  rw [hK] at hI
  obtain ⟨k1, g1, r1⟩ := h.inv.get hs
  obtain ⟨k2, g2, r2⟩ := h.inv.get ht
  obtain ⟨k3, g3, r3⟩ := hI.get hs
  have mem1 : x.K[s] ∈ x.K := List.getElem_mem k1
  have mem2 : x.K[t] ∈ x.K := List.getElem_mem k2
  -- the joined rows are closed
  have hclo : ∀ R ∈ K, Clo x.out R := by
    intro R hR
    rw [← hK] at hR
    unfold hjoin at hR
    split at hR
    · rcases List.mem_or_eq_of_mem_set hR with hR | rfl
      · exact h.clo R hR
      · rw [g1, g2]; exact Clo.join (by rw [r1.1, r2.1]) (h.clo _ mem1) (h.clo _ mem2)
    · exact h.clo R hR
  -- what a row says of a station is at most what the station says of itself
  have hle : ∀ R ∈ x.K, ∀ a : Nat, a < 3 → R.getD a 0 ≤ (x.K.getD a []).getD a 0 := by
    intro R hR a ha
    rcases Int.lt_or_le (R.getD a 0) 1 with h1 | h1
    · obtain ⟨k4, g4, r4⟩ := h.inv.get ha
      have : 0 ≤ (x.K.getD a []).getD a 0 := by
        rw [g4]; exact (r4.2 _ (getD_mem (by omega))).1
      omega
    · obtain ⟨c, hc, e1, e2, _⟩ := h.clo R hR a _ h1 (Int.le_refl _)
      have := h.top c hc
      rw [e1, e2] at this
      simpa using this
  have hdiag : ∀ a : Nat, (K.getD a []).getD a 0 = (x.K.getD a []).getD a 0 ∨ ¬ a < 3 := by
    intro a
    by_cases ha : a < 3
    · left
      rw [← hK]
      unfold hjoin
      split
      · rw [getD_setL k1]
        split
        · rename_i e; subst e
          rw [g1, g2, getD_maxL (by rw [r1.1, r2.1])]
          have := hle _ mem2 a ha
          rw [g1] at this
          rw [if_neg (by omega)]
        · rfl
      · rfl
    · exact .inr ha
  have hc : hcom K s = mkCom s (K[s].getD s 0 + 1) K[s] := by unfold hcom; rw [g3]
  have hout : (hnext x s t u).out = x.out ++ [hcom K s] := by simp only [hnext, hK]
  have hKn : (hnext x s t u).K = K.set s (own (hcom K s)) := by simp only [hnext, hK]
  have hsub : ∀ c ∈ x.out, c ∈ x.out ++ [hcom K s] := fun c hc => by simp [hc]
  have hown : own (hcom K s) = K[s].set s (K[s].getD s 0 + 1) := by rw [hc]; rfl
  have hs6 : s < K[s].length := by omega
  have hgo : ∀ a, (own (hcom K s)).getD a 0 = if a = s then K[s].getD s 0 + 1 else K[s].getD a 0 := fun a => by rw [hown, getD_set hs6]
  have hpo : le K[s] (own (hcom K s)) := fun a => by rw [hgo]; split; · rename_i e; subst e; omega
                                                     · omega
  have hcK : Clo (x.out ++ [hcom K s]) K[s] := (hclo _ (List.getElem_mem k3)).mono hsub
  have hnew : CGood (x.out ++ [hcom K s]) (hcom K s) := by
    rw [hc] at hcK ⊢
    refine ⟨by show (0 : Int) ≤ (s : Int); omega, by show ((s : Nat) : Int) < 3; omega, r3.1, fun v hv => ?_, ?_, hcK⟩
    · have := r3.2 v hv; omega
    · show K[s].getD s 0 + 1 = K[s].getD ((s : Int)).toNat 0 + 1
      rw [Int.toNat_natCast]
  have hst : (hcom K s).st = (s : Int) := by rw [hc]; rfl
  have hsq : (hcom K s).seq = K[s].getD s 0 + 1 := by rw [hc]; rfl
  have hds : K[s].getD s 0 = (x.K.getD s []).getD s 0 := by have := (hdiag s).resolve_right (by omega); rwa [g3] at this
  refine ⟨?_, ?_, ?_, ?_, ?_⟩
  · rw [hout, hKn]; simpa using hI.step hs
  · rw [hout, hKn]
    intro R hR
    rcases List.mem_or_eq_of_mem_set hR with hR | rfl
    · exact (hclo R hR).mono hsub
    · intro a q h1 h2
      rw [hgo] at h2
      by_cases ha : a = s
      · rw [if_pos ha] at h2
        rcases Int.lt_or_le (K[s].getD s 0) q with hq | hq
        · exact ⟨hcom K s, by simp, by rw [hst, ha], by rw [hsq]; omega, fun _ => Int.le_refl _⟩
        · obtain ⟨c, m, e1, e2, e3⟩ := hcK a q h1 (by rw [ha]; exact hq)
          exact ⟨c, m, e1, e2, fun z => Int.le_trans (e3 z) (hpo z)⟩
      · rw [if_neg ha] at h2
        obtain ⟨c, m, e1, e2, e3⟩ := hcK a q h1 h2
        exact ⟨c, m, e1, e2, fun z => Int.le_trans (e3 z) (hpo z)⟩
  · rw [hout]
    intro c hm
    rcases List.mem_append.1 hm with hm | hm
    · have := h.coms c hm
      exact ⟨this.s0, this.s3, this.len, this.row, this.seq, this.clo.mono hsub⟩
    · obtain rfl := List.mem_singleton.1 hm
      exact hnew
  · rw [hout, hKn]
    intro c hm
    have k3' : s < K.length := k3
    rw [getD_setL k3']
    rcases List.mem_append.1 hm with hm | hm
    · have h1 := h.top c hm
      have h2 := h.coms c hm
      have h3 : c.st.toNat < 3 := by have := h2.s0; have := h2.s3; omega
      split
      · rename_i e
        rw [hgo, if_pos e]
        rw [e] at h1; omega
      · have := (hdiag c.st.toNat).resolve_right (by omega)
        rw [this]; exact h1
    · obtain rfl := List.mem_singleton.1 hm
      rw [hst, Int.toNat_natCast, if_pos rfl, hgo, if_pos rfl, hsq]
      omega
  · rw [hout, List.pairwise_append]
    refine ⟨h.nd, List.pairwise_singleton _ _, fun a ha b hb => ?_⟩
    obtain rfl := List.mem_singleton.1 hb
    rintro ⟨e1, e2⟩
    have h1 := h.top a ha
    rw [e1, e2, hst, Int.toNat_natCast, hsq, hds] at h1
    omega

theorem headers_good (b : List Nat) : HGood ((b.take 12).foldl hstep ⟨[], [zeros, zeros, zeros]⟩) := by
  have key : ∀ (l : List Nat) (x : HS), HGood x → x.out.length + l.length ≤ 12 → HGood (l.foldl hstep x) := by
    intro l
    induction l with
    | nil => intro x h _; exact h
    | cons a l ih =>
      intro x h hn
      simp only [List.length_cons] at hn
      rw [List.foldl_cons]
      exact ih _ (h.next (by omega) (Nat.mod_lt _ (by decide)) (Nat.mod_lt _ (by decide))) (by simp only [hstep, hnext, List.length_append, List.length_singleton]; omega)
  refine key _ _ ⟨⟨rfl, by decide⟩, fun R hR => ?_, fun c hc => by simp at hc, fun c hc => by simp at hc, List.Pairwise.nil⟩ (by simp; omega)
  intro t q h1 h2
  have : R = zeros := by simpa using hR
  subst this
  have : (zeros : List Int).getD t 0 = 0 := by
    match t with
    | 0 | 1 | 2 | 3 | 4 | 5 => rfl
    | t + 6 => rfl
  omega

end Go.Abs
/- Plain laws of chapter 20: CutCausal. -/
set_option linter.unusedSimpArgs false
set_option linter.unusedVariables false
namespace Go.Abs
open Go

structure LGood (l : List Com) : Prop where
  coms : ∀ c ∈ l, CGood l c
  nd : l.Pairwise fun a b => ¬ (a.st = b.st ∧ a.seq = b.seq)

theorem headers_lgood (b : List Nat) : LGood (headers b) := ⟨(headers_good b).coms, (headers_good b).nd⟩

theorem nd_eq : ∀ {l : List Com}, (l.Pairwise fun a b => ¬ (a.st = b.st ∧ a.seq = b.seq)) → ∀ {a b : Com}, a ∈ l → b ∈ l → a.st = b.st → a.seq = b.seq → a = b
  | [], _, a, b, ha, _, _, _ => by simp at ha
  | c :: l, h, a, b, ha, hb, e1, e2 => by
    rw [List.pairwise_cons] at h
    rcases List.mem_cons.1 ha with ha' | ha'
    · rcases List.mem_cons.1 hb with hb' | hb'
      · rw [ha', hb']
      · subst ha'; exact absurd ⟨e1, e2⟩ (h.1 b hb')
    · rcases List.mem_cons.1 hb with hb' | hb'
      · subst hb'; exact absurd ⟨e1.symm, e2.symm⟩ (h.1 a ha')
      · exact nd_eq h.2 ha' hb' e1 e2

theorem six {p : List Int} (h : p.length = 6) : ∃ a b c d e f, p = [a, b, c, d, e, f] := by
  match p, h with
  | [a, b, c, d, e, f], _ => exact ⟨a, b, c, d, e, f, rfl⟩

theorem sumW_eq {p : List Int} (h : p.length = 6) (hr : ∀ x ∈ p, 0 ≤ x ∧ x ≤ 12) : sumW p = p.sum := by
  obtain ⟨a, b, c, d, e, f, rfl⟩ := six h
  have ha := hr a (by simp); have hb := hr b (by simp); have hc := hr c (by simp)
  have hd := hr d (by simp); have he := hr e (by simp); have hf := hr f (by simp)
  simp only [sumW, List.foldl_cons, List.foldl_nil, addW]
  rw [wrap_i64 (x := 0 + a) (by omega) (by omega), wrap_i64 (x := 0 + a + b) (by omega) (by omega), wrap_i64 (x := 0 + a + b + c) (by omega) (by omega), wrap_i64 (x := 0 + a + b + c + d) (by omega) (by omega),
    wrap_i64 (x := 0 + a + b + c + d + e) (by omega) (by omega), wrap_i64 (x := 0 + a + b + c + d + e + f) (by omega) (by omega)]
  simp only [List.sum_cons, List.sum_nil]
  omega

theorem CGood.valid {l : List Com} {c : Com} (h : CGood l c) : valid c.past = true := by
  simp only [Go.Abs.valid, Bool.and_eq_true, decide_eq_true_eq, List.all_eq_true]
  refine ⟨h.len, fun x hx => ?_⟩
  have := h.row x hx
  simp only [okSeq, Bool.and_eq_true, decide_eq_true_eq]; omega
theorem CGood.st6 {l : List Com} {c : Com} (h : CGood l c) : c.st.toNat < 6 := by have := h.s0; have := h.s3; omega
theorem CGood.pst {l : List Com} {c : Com} (h : CGood l c) : 0 ≤ c.past.getD c.st.toNat 0 ∧ c.past.getD c.st.toNat 0 ≤ 12 := h.row _ (getD_mem (by rw [h.len]; exact h.st6))
theorem CGood.wf {l : List Com} {c : Com} (h : CGood l c) : wf c = true := by
  have h1 := h.pst
  have h2 := h.seq
  have h3 := h.s0
  have h4 := h.s3
  simp only [Go.Abs.wf, Bool.and_eq_true, decide_eq_true_eq]
  exact ⟨⟨⟨⟨⟨h3, by omega⟩, by omega⟩, by omega⟩, h.valid⟩, by omega⟩

theorem own_get {l : List Com} {c : Com} (h : CGood l c) (t : Nat) : (own c).getD t 0 = if t = c.st.toNat then c.seq else c.past.getD t 0 := getD_set (by rw [h.len]; exact h.st6)

theorem past_le_own {l : List Com} {c : Com} (h : CGood l c) : le c.past (own c) := fun t => by
  rw [own_get h]
  split
  · rename_i e; rw [e]; have := h.seq; omega
  · omega

theorem leq_of_le {a b : List Int} (ha : valid a = true) (hb : valid b = true) (h : le a b) : leq a b = true := by
  obtain ⟨a0, a1, a2, a3, a4, a5, rfl⟩ := six (valid_len ha)
  obtain ⟨b0, b1, b2, b3, b4, b5, rfl⟩ := six (valid_len hb)
  have h0 : a0 ≤ b0 := h 0
  have h1 : a1 ≤ b1 := h 1
  have h2 : a2 ≤ b2 := h 2
  have h3 : a3 ≤ b3 := h 3
  have h4 : a4 ≤ b4 := h 4
  have h5 : a5 ≤ b5 := h 5
  simp [leq, ha, hb, h0, h1, h2, h3, h4, h5]

theorem sum_lt {l : List Com} {a : Com} (h : CGood l a) {p : List Int} (hp : p.length = 6) (hle : le (own a) p) : a.past.sum < p.sum := by
  have hlt : a.past.getD a.st.toNat 0 < p.getD a.st.toNat 0 := by
    have := hle a.st.toNat
    rw [own_get h, if_pos rfl] at this
    have := h.seq; omega
  have hle2 : le a.past p := fun t => Int.le_trans (past_le_own h t) (hle t)
  obtain ⟨a0, a1, a2, a3, a4, a5, hap⟩ := six h.len
  obtain ⟨b0, b1, b2, b3, b4, b5, rfl⟩ := six hp
  rw [hap] at hlt hle2 ⊢
  have h0 : a0 ≤ b0 := hle2 0
  have h1 : a1 ≤ b1 := hle2 1
  have h2 : a2 ≤ b2 := hle2 2
  have h3 : a3 ≤ b3 := hle2 3
  have h4 : a4 ≤ b4 := hle2 4
  have h5 : a5 ≤ b5 := hle2 5
  simp only [List.sum_cons, List.sum_nil]
  have hs : a.st.toNat = 0 ∨ a.st.toNat = 1 ∨ a.st.toNat = 2 := by have := h.s0; have := h.s3; omega
  rcases hs with e | e | e <;> rw [e] at hlt
  · have : a0 < b0 := hlt
    omega
  · have : a1 < b1 := hlt
    omega
  · have : a2 < b2 := hlt
    omega

theorem sees_iff {l : List Com} (h : LGood l) {c a : Com} (hc : c ∈ l) (ha : a ∈ l) : sees c a = true ↔ a.seq ≤ c.past.getD a.st.toNat 0 := by
  simp [sees, (h.coms c hc).wf, (h.coms a ha).wf]

theorem sees_le {l : List Com} (h : LGood l) {c a : Com} (hc : c ∈ l) (ha : a ∈ l) (hs : sees c a = true) : le (own a) c.past := by
  rw [sees_iff h hc ha] at hs
  have ga := h.coms a ha
  have h1 := ga.pst
  have h2 := ga.seq
  obtain ⟨d, hd, e1, e2, e3⟩ := (h.coms c hc).clo a.st.toNat a.seq (by omega) hs
  have := nd_eq h.nd hd ha (by rw [e1]; have := ga.s0; omega) e2
  rw [← this]; exact e3

theorem sees_sum {l : List Com} (h : LGood l) {c a : Com} (hc : c ∈ l) (ha : a ∈ l) (hs : sees c a = true) : sumW a.past < sumW c.past := by
  have gc := h.coms c hc
  have ga := h.coms a ha
  rw [sumW_eq gc.len gc.row, sumW_eq ga.len ga.row]
  exact sum_lt ga gc.len (sees_le h hc ha hs)

theorem before_iff {l : List Com} (h : LGood l) {a b : Com} (ha : a ∈ l) (hb : b ∈ l) : befC a b = decide (cmpC a b < 0) := by
  simp [befC, (h.coms a ha).wf, (h.coms b hb).wf]

theorem before_not {l : List Com} (h : LGood l) {a b : Com} (ha : a ∈ l) (hb : b ∈ l) (hne : ¬ (a.st = b.st ∧ a.seq = b.seq)) : befC b a = !befC a b := by
  rw [before_iff h ha hb, before_iff h hb ha, cmpC_lt, cmpC_lt]
  by_cases h1 : sumW a.past = sumW b.past
  · by_cases h2 : a.st = b.st
    · have h3 : a.seq ≠ b.seq := fun e => hne ⟨h2, e⟩
      simp only [h1, h2, decide_true, if_true]
      by_cases h4 : a.seq < b.seq
      · have : ¬ b.seq < a.seq := by omega
        simp [h4, this]
      · have : b.seq < a.seq := by omega
        simp [h4, this]
    · simp only [h1, decide_true, if_true, h2, Ne.symm h2, decide_false, Bool.false_eq_true, if_false]
      by_cases h4 : a.st < b.st
      · have : ¬ b.st < a.st := by omega
        simp [h4, this]
      · have : b.st < a.st := by omega
        simp [h4, this]
  · simp only [h1, Ne.symm h1, decide_false, Bool.false_eq_true, if_false]
    by_cases h4 : sumW a.past < sumW b.past
    · have : ¬ sumW b.past < sumW a.past := by omega
      simp [h4, this]
    · have : sumW b.past < sumW a.past := by omega
      simp [h4, this]

theorem nmFrom_len : ∀ (l : List Com) (m : NMap) (i : Nat), (l.Pairwise fun a b => ¬ (a.st = b.st ∧ a.seq = b.seq)) → (∀ c ∈ l, m.get c.nam = none) → (nmFrom m i l).length = m.length + l.length
  | [], m, i, _, _ => rfl
  | c :: l, m, i, h, hm => by
    rw [List.pairwise_cons] at h
    have h1 := hm c (by simp)
    rw [nmFrom, show nmStep m c i = m ++ [(c.nam, i)] by unfold nmStep; rw [h1]]
    rw [nmFrom_len l _ _ h.2 fun d hd => ?_]
    · simp; omega
    · have h2 := hm d (by simp [hd])
      have h3 := h.1 d hd
      have h4 : d.nam ≠ c.nam := fun e => h3 ⟨(congrArg Nam.st e).symm, (congrArg Nam.seq e).symm⟩
      unfold NMap.get at h2 ⊢
      rw [Option.map_eq_none_iff] at h2 ⊢
      rw [List.find?_append, h2]
      simp [h4]

theorem known_good {l : List Com} (h : LGood l) {p : List Int} (hv : valid p = true) (hp : Clo l p) : ∀ (qs : List Int) (s : Nat), (∀ (j : Nat) (hj : j < qs.length), qs[j] = p.getD (s + j) 0 ∧ 0 ≤ qs[j]) → knownL l p s qs = true
  | [], s, _ => rfl
  | q :: qs, s, hq => by
    rw [knownL, known_good h hv hp qs (s + 1) (fun j hj => by have := hq (j + 1) (by simp; omega); rw [show s + 1 + j = s + (j + 1) by omega]; simpa using this), Bool.and_true]
    have h0 := hq 0 (by simp)
    simp only [List.getElem_cons_zero, Nat.add_zero] at h0
    split
    · rfl
    · rename_i hne
      obtain ⟨c, hc, e1, e2, e3⟩ := hp s q (by omega) (by omega)
      have hN : isN ⟨s, q⟩ c = true := by simp [isN, e1, e2]
      cases hf : l.find? (isN ⟨s, q⟩) with
      | none => rw [List.find?_eq_none] at hf; exact absurd hN (hf c hc)
      | some d =>
        have hd := List.mem_of_find?_eq_some hf
        have hdN := List.find?_some hf
        simp only [isN, Bool.and_eq_true, decide_eq_true_eq] at hdN
        have := nd_eq h.nd hd hc (by rw [hdN.1, e1]) (by rw [hdN.2, e2])
        subst this
        have gd := h.coms d hd
        exact leq_of_le gd.valid hv fun t => Int.le_trans (past_le_own gd t) (e3 t)

theorem consistent_good {l : List Com} (h : LGood l) : consistentP l = true := by
  simp only [consistentP, Bool.and_eq_true, decide_eq_true_eq, List.all_eq_true]
  refine ⟨⟨?_, fun c hc => (h.coms c hc).wf⟩, fun c hc => ?_⟩
  · have := nmFrom_len l [] 0 h.nd fun c _ => rfl
    simpa [nmap] using this
  · have gc := h.coms c hc
    exact known_good h gc.valid gc.clo c.past 0 fun j hj => ⟨by rw [Nat.zero_add, List.getD_eq_getElem?_getD, List.getElem?_eq_getElem hj]; rfl, (gc.row _ (List.getElem_mem hj)).1⟩

theorem causal_good {l : List Com} (h : LGood l) : Causal l where
  cons := consistent_good h
  wf i hi := (h.coms _ (List.getElem_mem hi)).wf
  irr i hi := by
    have m := List.getElem_mem hi
    cases hs : sees l[i] l[i] with
    | false => rfl
    | true => have := sees_sum h m m hs; omega
  irr' i hi := by
    have m := List.getElem_mem hi
    rw [before_iff h m m, cmpC_lt]
    simp
  tot i j hi hj hij := by
    refine before_not h (List.getElem_mem hi) (List.getElem_mem hj) fun e => ?_
    rcases Nat.lt_or_gt_of_ne hij with hlt | hlt
    · exact (List.pairwise_iff_getElem.1 h.nd i j hi hj hlt) e
    · exact (List.pairwise_iff_getElem.1 h.nd j i hj hi hlt) ⟨e.1.symm, e.2.symm⟩
  see i j hi hj hs := by
    have mi := List.getElem_mem hi
    have mj := List.getElem_mem hj
    have hsum := sees_sum h mi mj hs
    refine ⟨?_, leq_of_le (h.coms _ mj).valid (h.coms _ mi).valid fun t => Int.le_trans (past_le_own (h.coms _ mj) t) (sees_le h mi mj hs t), ?_⟩
    · rw [before_iff h mj mi, cmpC_lt]
      have : ¬ sumW l[j].past = sumW l[i].past := by omega
      simp [this, hsum]
    · cases hs2 : sees l[j] l[i] with
      | false => rfl
      | true => have := sees_sum h mj mi hs2; omega
  trans i j k hi hj hk h1 h2 := by
    have mi := List.getElem_mem hi
    have mj := List.getElem_mem hj
    have mk := List.getElem_mem hk
    rw [sees_iff h mi mk]
    rw [sees_iff h mj mk] at h2
    exact Int.le_trans h2 (Int.le_trans (past_le_own (h.coms _ mj) _) (sees_le h mi mj h1 _))

theorem cutCausal_true {f : SlF} {b : List Nat} (hb : Fits b) (hb8 : ∀ n ∈ b, n < 256) : Cw T false i_l20_CutCausal [bytesV f b] [] [] yes :=
  l20_CutCausal_true hb hb8 (causal_good (headers_lgood b))

end Go.Abs
/- Plain laws of chapter 20: closed cuts, their joins and meets. -/
set_option linter.unusedSimpArgs false
set_option linter.unusedVariables false
namespace Go.Abs
open Go

theorem getD_minL {a b : List Int} (h : a.length = b.length) (t : Nat) : (minL a b).getD t 0 = if b.getD t 0 < a.getD t 0 then b.getD t 0 else a.getD t 0 := by
  simp only [minL, List.getD_eq_getElem?_getD, List.getElem?_zipWith]
  by_cases ht : t < a.length
  · simp [List.getElem?_eq_getElem ht, List.getElem?_eq_getElem (h ▸ ht : t < b.length)]
  · simp [List.getElem?_eq_none (show a.length ≤ t by omega), List.getElem?_eq_none (show b.length ≤ t by omega)]

theorem valid_iff {a : List Int} : valid a = true ↔ a.length = 6 ∧ ∀ t, 0 ≤ a.getD t 0 ∧ a.getD t 0 ≤ 999 := by
  simp only [valid, Bool.and_eq_true, decide_eq_true_eq, List.all_eq_true, okSeq]
  constructor
  · rintro ⟨h1, h2⟩
    refine ⟨h1, fun t => ?_⟩
    by_cases ht : t < a.length
    · exact h2 _ (getD_mem ht)
    · rw [List.getD_eq_getElem?_getD, List.getElem?_eq_none (by omega)]; simp
  · rintro ⟨h1, h2⟩
    refine ⟨h1, fun x hx => ?_⟩
    obtain ⟨i, hi, rfl⟩ := List.getElem_of_mem hx
    have := h2 i
    rwa [List.getD_eq_getElem?_getD, List.getElem?_eq_getElem hi] at this

theorem ext6 {a b : List Int} (ha : a.length = 6) (hb : b.length = 6) (h : ∀ t, a.getD t 0 = b.getD t 0) : a = b := by
  refine List.ext_getElem (by omega) fun i h1 h2 => ?_
  have := h i
  rwa [List.getD_eq_getElem?_getD, List.getD_eq_getElem?_getD, List.getElem?_eq_getElem h1, List.getElem?_eq_getElem h2] at this

theorem len_maxL {a b : List Int} (ha : a.length = 6) (hb : b.length = 6) : (maxL a b).length = 6 := by simp [maxL, ha, hb]
theorem len_minL {a b : List Int} (ha : a.length = 6) (hb : b.length = 6) : (minL a b).length = 6 := by simp [minL, ha, hb]

theorem valid_maxL {a b : List Int} (ha : valid a = true) (hb : valid b = true) : valid (maxL a b) = true := by
  rw [valid_iff] at *
  refine ⟨len_maxL ha.1 hb.1, fun t => ?_⟩
  rw [getD_maxL (by rw [ha.1, hb.1])]
  have := ha.2 t; have := hb.2 t
  split <;> omega
theorem valid_minL {a b : List Int} (ha : valid a = true) (hb : valid b = true) : valid (minL a b) = true := by
  rw [valid_iff] at *
  refine ⟨len_minL ha.1 hb.1, fun t => ?_⟩
  rw [getD_minL (by rw [ha.1, hb.1])]
  have := ha.2 t; have := hb.2 t
  split <;> omega

theorem leq_iff {a b : List Int} (ha : valid a = true) (hb : valid b = true) : leq a b = true ↔ le a b := by
  constructor
  · intro h
    obtain ⟨a0, a1, a2, a3, a4, a5, rfl⟩ := six (valid_len ha)
    obtain ⟨b0, b1, b2, b3, b4, b5, rfl⟩ := six (valid_len hb)
    simp [leq, ha, hb] at h
    intro t
    match t with
    | 0 => exact h.1
    | 1 => exact h.2.1
    | 2 => exact h.2.2.1
    | 3 => exact h.2.2.2.1
    | 4 => exact h.2.2.2.2.1
    | 5 => exact h.2.2.2.2.2
    | t + 6 => exact Int.le_refl 0
  · exact leq_of_le ha hb
theorem leq_valid {a b : List Int} (h : leq a b = true) : valid a = true ∧ valid b = true := by
  simp only [leq, Bool.and_eq_true] at h; exact h.1

theorem le_maxL1 {a b : List Int} (h : a.length = b.length) : le a (maxL a b) := fun t => by rw [getD_maxL h]; split <;> omega
theorem le_maxL2 {a b : List Int} (h : a.length = b.length) : le b (maxL a b) := fun t => by rw [getD_maxL h]; split <;> omega
theorem minL_le1 {a b : List Int} (h : a.length = b.length) : le (minL a b) a := fun t => by rw [getD_minL h]; split <;> omega
theorem minL_le2 {a b : List Int} (h : a.length = b.length) : le (minL a b) b := fun t => by rw [getD_minL h]; split <;> omega

theorem lead_full {p : Nat → Bool} : ∀ d q, lead p q d = q + d ↔ ∀ j, q < j → j ≤ q + d → p j = true
  | 0, q => ⟨fun _ j h1 h2 => by omega, fun _ => rfl⟩
  | d + 1, q => by
    rw [lead]
    split
    · rename_i h
      rw [show q + (d + 1) = q + 1 + d by omega, lead_full d (q + 1)]
      constructor
      · intro g j h1 h2
        by_cases e : j = q + 1
        · rw [e]; exact h
        · exact g j (by omega) (by omega)
      · intro g j h1 h2
        exact g j (by omega) (by omega)
    · rename_i h
      constructor
      · intro e; omega
      · intro g; exact absurd (g (q + 1) (by omega) (by omega)) h

/-- closed, said by stations and numbers -/
theorem full_all {l : List Com} {c : List Int} (hv : valid c = true) {s : Nat} : full l c s = true ↔ ∀ j : Nat, 0 < j → (j : Int) ≤ c.getD s 0 → okq l c s j = true := by
  have h0 := ((valid_iff.1 hv).2 s).1
  have h1 := lead_full (p := okq l c s) (c.getD s 0).toNat 0
  have h2 : fit l c s ≤ (c.getD s 0).toNat := fit_le
  rw [Nat.zero_add] at h1
  have h3 : full l c s = true ↔ fit l c s = (c.getD s 0).toNat := by
    unfold full
    simp only [Bool.not_eq_true', decide_eq_false_iff_not]
    omega
  rw [h3]
  unfold fit
  rw [h1]
  exact ⟨fun g j a b => g j a (by omega), fun g j a b => g j a (by omega)⟩
theorem closed_all {l : List Com} {c : List Int} (hv : valid c = true) : closed l c = true ↔ ∀ s : Nat, s < 6 → ∀ j : Nat, 0 < j → (j : Int) ≤ c.getD s 0 → okq l c s j = true := by
  unfold closed
  rw [hv, Bool.true_and, List.all_eq_true]
  exact ⟨fun g s hs => (full_all hv).1 (g s (by simpa using hs)), fun g s hs => (full_all hv).2 (g s (by simpa using hs))⟩

theorem okq_mono {l : List Com} {c d : List Int} (hc : valid c = true) (hd : valid d = true) (h : le c d) {s q : Nat} (hk : okq l c s q = true) : okq l d s q = true := by
  unfold okq at hk ⊢
  split at hk
  · simp only [Bool.and_eq_true] at hk ⊢
    refine ⟨hk.1, ?_⟩
    have hx := (leq_valid hk.2).1
    exact leq_of_le hx hd fun t => Int.le_trans ((leq_iff hx hc).1 hk.2 t) (h t)
  · simp at hk
theorem okq_min {l : List Com} {a b : List Int} (ha : valid a = true) (hb : valid b = true) {s q : Nat} (h1 : okq l a s q = true) (h2 : okq l b s q = true) : okq l (minL a b) s q = true := by
  have hl : a.length = b.length := by rw [valid_len ha, valid_len hb]
  unfold okq at *
  split at h1
  · rename_i x e
    rw [e] at h2
    simp only [Bool.and_eq_true] at h1 h2 ⊢
    refine ⟨h1.1, ?_⟩
    have hx := (leq_valid h1.2).1
    refine leq_of_le hx (valid_minL ha hb) fun t => ?_
    have g1 := (leq_iff hx ha).1 h1.2 t
    have g2 := (leq_iff hx hb).1 h2.2 t
    rw [getD_minL hl]
    split <;> omega
  · simp at h1

theorem closed_max {l : List Com} {a b : List Int} (ha : closed l a = true) (hb : closed l b = true) : closed l (maxL a b) = true := by
  have va : valid a = true := by unfold closed at ha; simp only [Bool.and_eq_true] at ha; exact ha.1
  have vb : valid b = true := by unfold closed at hb; simp only [Bool.and_eq_true] at hb; exact hb.1
  have hl : a.length = b.length := by rw [valid_len va, valid_len vb]
  rw [closed_all va] at ha
  rw [closed_all vb] at hb
  rw [closed_all (valid_maxL va vb)]
  intro s hs j h1 h2
  rw [getD_maxL hl] at h2
  split at h2
  · exact okq_mono vb (valid_maxL va vb) (le_maxL2 hl) (hb s hs j h1 h2)
  · exact okq_mono va (valid_maxL va vb) (le_maxL1 hl) (ha s hs j h1 h2)
theorem closed_min {l : List Com} {a b : List Int} (ha : closed l a = true) (hb : closed l b = true) : closed l (minL a b) = true := by
  have va : valid a = true := by unfold closed at ha; simp only [Bool.and_eq_true] at ha; exact ha.1
  have vb : valid b = true := by unfold closed at hb; simp only [Bool.and_eq_true] at hb; exact hb.1
  have hl : a.length = b.length := by rw [valid_len va, valid_len vb]
  rw [closed_all va] at ha
  rw [closed_all vb] at hb
  rw [closed_all (valid_minL va vb)]
  intro s hs j h1 h2
  rw [getD_minL hl] at h2
  split at h2
  · exact okq_min va vb (ha s hs j h1 (by omega)) (hb s hs j h1 (by omega))
  · exact okq_min va vb (ha s hs j h1 (by omega)) (hb s hs j h1 (by omega))

theorem gre_closed {l : List Com} : ∀ n (c : List Int), valid c = true → total c < n → closed l (gre l n c) = true ∧ valid (gre l n c) = true
  | 0, _, _, h => by omega
  | n + 1, c, hv, hn => by
    rw [gre]
    split
    · rename_i h; exact ⟨h, hv⟩
    · rename_i h
      have := pass_less hv (by simpa using h)
      exact gre_closed n _ (pass_valid 6 0 c rfl hv) (by omega)
theorem cutOfL_closed (l : List Com) (b : List Nat) : closed l (cutOfL l b) = true ∧ valid (cutOfL l b) = true := by
  unfold cutOfL
  split
  · exact gre_closed _ _ valid_all (total_le valid_all)
  · exact gre_closed _ _ (valid_limit b) (total_le (valid_limit b))

theorem firstS_none {l : List Com} {c : List Int} (h : ∀ s, s < 6 → full l c s = true) : ∀ d s, s + d = 6 → firstS l c s d = none
  | 0, s, _ => rfl
  | d + 1, s, hd => by rw [firstS, if_pos (h s (by omega)), firstS_none h d (s + 1) (by omega)]
theorem closedP_of {l : List Com} {c : List Int} (h : closed l c = true) : closedP l c = true := by
  unfold closed at h
  simp only [Bool.and_eq_true, List.all_eq_true] at h
  simp only [closedP, h.1, Bool.true_and, decide_eq_true_eq]
  rw [show (6000 : Nat) = 5999 + 1 from rfl, reachF, firstS_none (fun s hs => h.2 s (by simpa using hs)) 6 0 rfl]

/-- the laws of a lattice -/
structure Latt (a b c : List Int) : Prop where
  comm1 : maxL b a = maxL a b
  comm2 : minL b a = minL a b
  ass1 : maxL (maxL a b) c = maxL a (maxL b c)
  ass2 : minL (minL a b) c = minL a (minL b c)
  id1 : maxL a a = a
  id2 : minL a a = a
  abs1 : maxL a (minL a b) = a
  abs2 : minL a (maxL a b) = a
  leq1 : leq a b = decide (maxL a b = b)
  leq2 : leq a b = decide (minL a b = a)
  mm : leq (minL a b) (maxL a b) = true

theorem latt {a b c : List Int} (ha : valid a = true) (hb : valid b = true) (hc : valid c = true) : Latt a b c := by
  have la := valid_len ha
  have lb := valid_len hb
  have lc := valid_len hc
  have g1 : ∀ {x y : List Int}, x.length = 6 → y.length = 6 → ∀ t, (maxL x y).getD t 0 = if x.getD t 0 < y.getD t 0 then y.getD t 0 else x.getD t 0 := fun hx hy t => getD_maxL (by rw [hx, hy]) t
  have g2 : ∀ {x y : List Int}, x.length = 6 → y.length = 6 → ∀ t, (minL x y).getD t 0 = if y.getD t 0 < x.getD t 0 then y.getD t 0 else x.getD t 0 := fun hx hy t => getD_minL (by rw [hx, hy]) t
  have m1 : ∀ {x y : List Int}, x.length = 6 → y.length = 6 → (maxL x y).length = 6 := fun hx hy => len_maxL hx hy
  have m2 : ∀ {x y : List Int}, x.length = 6 → y.length = 6 → (minL x y).length = 6 := fun hx hy => len_minL hx hy
  have iff : ∀ {p : Prop} [Decidable p] {x : Bool}, (x = true ↔ p) → x = decide p := fun {p} _ {x} h => by
    cases x
    · exact (decide_eq_false fun hp => by simpa using h.2 hp).symm
    · exact (decide_eq_true (h.1 rfl)).symm
  refine ⟨ext6 (m1 lb la) (m1 la lb) fun t => ?_, ext6 (m2 lb la) (m2 la lb) fun t => ?_, ext6 (m1 (m1 la lb) lc) (m1 la (m1 lb lc)) fun t => ?_, ext6 (m2 (m2 la lb) lc) (m2 la (m2 lb lc)) fun t => ?_,
    ext6 (m1 la la) la fun t => ?_, ext6 (m2 la la) la fun t => ?_, ext6 (m1 la (m2 la lb)) la fun t => ?_, ext6 (m2 la (m1 la lb)) la fun t => ?_, iff ?_, iff ?_, ?_⟩
  · rw [g1 lb la, g1 la lb]; split <;> split <;> omega
  · rw [g2 lb la, g2 la lb]; split <;> split <;> omega
  · rw [g1 (m1 la lb) lc, g1 la (m1 lb lc), g1 la lb, g1 lb lc]; generalize a.getD t 0 = x; generalize b.getD t 0 = y; generalize c.getD t 0 = z; omega
  · rw [g2 (m2 la lb) lc, g2 la (m2 lb lc), g2 la lb, g2 lb lc]; generalize a.getD t 0 = x; generalize b.getD t 0 = y; generalize c.getD t 0 = z; omega
  · rw [g1 la la]; split <;> omega
  · rw [g2 la la]; split <;> omega
  · rw [g1 la (m2 la lb), g2 la lb]; split <;> split <;> omega
  · rw [g2 la (m1 la lb), g1 la lb]; split <;> split <;> omega
  · rw [leq_iff ha hb]
    constructor
    · intro h
      refine ext6 (m1 la lb) lb fun t => ?_
      have := h t
      rw [g1 la lb]; split <;> omega
    · intro h t
      have := g1 la lb t
      rw [h] at this
      split at this <;> omega
  · rw [leq_iff ha hb]
    constructor
    · intro h
      refine ext6 (m2 la lb) la fun t => ?_
      have := h t
      rw [g2 la lb]; split <;> omega
    · intro h t
      have := g2 la lb t
      rw [h] at this
      split at this <;> omega
  · refine leq_of_le (valid_minL ha hb) (valid_maxL ha hb) fun t => ?_
    rw [g2 la lb, g1 la lb]; split <;> split <;> omega

end Go.Abs
/- Walks of chapter 20: the names that bytes choose. -/
set_option linter.unusedSimpArgs false
set_option linter.unusedVariables false
namespace Go.Abs
open Go

abbrev noms (f : SlF) (l : List Nam) : AVal := sv 2 f (l.map encN)
abbrev cellsN (n : Nam) : List AVal := [.int .i64 n.st, .int .i64 n.seq]
theorem cellsN_len (n : Nam) : (cellsN n).length = 2 := rfl
theorem cellsN_pure (n : Nam) {p : Nat → Bool} : AVal.namesL p (cellsN n) = true := by simp (maxSteps := 2000000) only [go_sem, ↓reduceIte, Nat.reduceLT, Nat.reduceEqDiff, Nat.reduceLeDiff, Nat.reduceAdd, Nat.reduceSub, Nat.reduceMul, Int.reduceLT, Int.reduceLE, Int.reduceEq, Int.reduceNeg]
@[go_sem] theorem names_noms {p : Nat → Bool} {l : List Nam} : AVal.namesL p (l.flatMap cellsN) = true := v_names_flat (fun c => cellsN_pure c) l
theorem snap_noms {n o : Nat} {l : List Nam} {σ : Sto} (hσ : σ[o]? = some (.cells false (l.flatMap cellsN))) : snapA σ (n + 2) (.ref o (l.length * 2) 0 l.length 2) = some (noms .lst l) := by
  rw [snap_structs (k := 2) (by decide) (by decide) cellsN_len (fun c => cellsN_pure c) hσ]; exact congrArg some (sv_lst _ _).symm

def pick (l : List Com) (n : Nat) : Nam := (l.getD (n % l.length) (mkCom 0 0 [])).nam
def chosen (l : List Com) (b : List Nat) : List Nam := if l.length = 0 then [] else (b.take 6).map (pick l)

theorem l20_chosen_loop {f g : SlF} {l : List Com} {b : List Nat} (hl : Fits l) (h0 : 0 < l.length) (hb : Fits b) (hb8 : ∀ n ∈ b, n < 256) : ∀ i, i ≤ (b.take 6).length → ∀ out : List Nam, out.length = i →
    Run T (Res [.tmp 4] (noms .lst (out ++ ((b.take 6).drop i).map (pick l)))) (.inLoop l20_chosen.b0 :: l20_chosen.k0) (mkE 39 [(0, coms f l), (1, bytesV g b), (5, .ref 0 (i * 2) 0 i 2), (6, .int .i64 i)]) [.cells false (out.flatMap cellsN)] := by
  refine up_ind ?_ fun i hi ih out ho => ?_
  · intro out ho
    rw [run_round, run_unfold l20_chosen.b0.eq_1]
    rw [List.drop_length, List.map_nil, List.append_nil]
    have hlen : (b.take 6).length = min 6 b.length := List.length_take
    by_cases h1 : (b.take 6).length < b.length
    · have h2 : ¬ (((b.take 6).length : Int) < 6) := by omega
      simp (maxSteps := 2000000) only [go_sem, ↓reduceIte, Nat.reduceLT, Nat.reduceEqDiff, Nat.reduceLeDiff, Nat.reduceAdd, Nat.reduceSub, Nat.reduceMul, Int.reduceLT, Int.reduceLE, Int.reduceEq, Int.reduceNeg, h1, h2, run_unfold l20_chosen.c0.eq_1, run_unfold l20_chosen.c1.eq_1, l20_chosen.k0]
      rw [← ho, snap_noms (by rfl)]
    · simp (maxSteps := 2000000) only [go_sem, ↓reduceIte, Nat.reduceLT, Nat.reduceEqDiff, Nat.reduceLeDiff, Nat.reduceAdd, Nat.reduceSub, Nat.reduceMul, Int.reduceLT, Int.reduceLE, Int.reduceEq, Int.reduceNeg, h1, run_unfold l20_chosen.c0.eq_1, run_unfold l20_chosen.c1.eq_1, l20_chosen.k0]
      rw [← ho, snap_noms (by rfl)]
  · rw [run_round, run_unfold l20_chosen.b0.eq_1]
    have hi' : i < b.length ∧ i < 6 := by simp at hi; omega
    rw [List.drop_eq_getElem_cons hi, List.map_cons, List.getElem_take]
    have hlt : ((i : Int) < 6) := by omega
    have hpos : (0 : Int) < (l.length : Int) := by omega
    have hn := hb8 b[i] (List.getElem_mem hi'.1)
    have e1 := wrap_nat (show b[i] < 9223372036854775808 by omega)
    have e2 : Int.tmod (b[i] : Int) (l.length : Int) = ((b[i] % l.length : Nat) : Int) := rfl
    have hk : b[i] % l.length < l.length := Nat.mod_lt _ h0
    have hp : pick l b[i] = l[b[i] % l.length].nam := by unfold pick; rw [List.getD_eq_getElem?_getD, List.getElem?_eq_getElem hk]; rfl
    rw [hp]
    generalize b[i] % l.length = k at e2 hk ⊢
    simp (maxSteps := 2000000) only [go_sem, ↓reduceIte, Nat.reduceLT, Nat.reduceEqDiff, Nat.reduceLeDiff, Nat.reduceAdd, Nat.reduceSub, Nat.reduceMul, Int.reduceLT, Int.reduceLE, Int.reduceEq, Int.reduceNeg, hi'.1, hlt, hpos, h0, e1, e2, hk]
    have hlen : (out.flatMap cellsN).length = i * 2 := by rw [flatMap_len cellsN_len, ho]
    rw [appendV_grow (m := 1) (new := cellsN l[k].nam) (by rfl) (by rfl) hlen rfl rfl (by decide) (by simp (maxSteps := 2000000) only [go_sem, ↓reduceIte, Nat.reduceLT, Nat.reduceEqDiff, Nat.reduceLeDiff, Nat.reduceAdd, Nat.reduceSub, Nat.reduceMul, Int.reduceLT, Int.reduceLE, Int.reduceEq, Int.reduceNeg]) (by unfold maxBytes; omega)]
    have := ih (out ++ [l[k].nam]) (by simp [ho])
    have hX2 : out.flatMap cellsN ++ cellsN l[k].nam = (out ++ [l[k].nam]).flatMap cellsN := by rw [List.flatMap_append]; rfl
    rw [hX2]
    have hXn : AVal.namesL (fun o => decide (o < 1)) ((out ++ [l[k].nam]).flatMap cellsN) = true := names_noms
    generalize (out ++ [l[k].nam]).flatMap cellsN = X at hXn this ⊢
    rw [show (i + 1) * 2 = i * 2 + 2 by omega, List.append_assoc, List.singleton_append] at this
    simp (maxSteps := 2000000) only [go_sem, ↓reduceIte, Nat.reduceLT, Nat.reduceEqDiff, Nat.reduceLeDiff, Nat.reduceAdd, Nat.reduceSub, Nat.reduceMul, Int.reduceLT, Int.reduceLE, Int.reduceEq, Int.reduceNeg, hXn, wrap_succ (show i < 9223372036854775807 by omega), show ¬ ((l.length : Int) = 0) by omega]
    exact this

theorem l20_chosen_spec {f g : SlF} {l : List Com} {b : List Nat} (hl : Fits l) (hb : Fits b) (hb8 : ∀ n ∈ b, n < 256) {lv : List Nat} {σ : Sto} {R : Post} : Cw T true i_l20_chosen [coms f l, bytesV g b] lv σ R ↔ R (noms .lst (chosen l b)) σ := by
  refine cw_intro T_l20_chosen (by simp only [go_sem]) (by simp) ?_; rw [run_unfold l20_chosen.main.eq_1]
  unfold chosen
  by_cases h0 : l.length = 0
  · simp (maxSteps := 2000000) only [go_sem, ↓reduceIte, Nat.reduceLT, Nat.reduceEqDiff, Nat.reduceLeDiff, Nat.reduceAdd, Nat.reduceSub, Nat.reduceMul, Int.reduceLT, Int.reduceLE, Int.reduceEq, Int.reduceNeg]
    rw [run_round, run_unfold l20_chosen.b0.eq_1]
    have hpos : ¬ (0 : Int) < (l.length : Int) := by omega
    rw [if_pos h0]
    by_cases h1 : 0 < b.length
    · simp (maxSteps := 2000000) only [go_sem, ↓reduceIte, Nat.reduceLT, Nat.reduceEqDiff, Nat.reduceLeDiff, Nat.reduceAdd, Nat.reduceSub, Nat.reduceMul, Int.reduceLT, Int.reduceLE, Int.reduceEq, Int.reduceNeg, show (0 : Int) < (b.length : Int) by omega, hpos, run_unfold l20_chosen.c0.eq_1, run_unfold l20_chosen.c1.eq_1, l20_chosen.k0]
      exact snap_noms (l := []) rfl
    · simp (maxSteps := 2000000) only [go_sem, ↓reduceIte, Nat.reduceLT, Nat.reduceEqDiff, Nat.reduceLeDiff, Nat.reduceAdd, Nat.reduceSub, Nat.reduceMul, Int.reduceLT, Int.reduceLE, Int.reduceEq, Int.reduceNeg, show ¬ (0 : Int) < (b.length : Int) by omega, hpos, run_unfold l20_chosen.c0.eq_1, run_unfold l20_chosen.c1.eq_1, l20_chosen.k0]
      exact snap_noms (l := []) rfl
  · simp (maxSteps := 2000000) only [go_sem, ↓reduceIte, Nat.reduceLT, Nat.reduceEqDiff, Nat.reduceLeDiff, Nat.reduceAdd, Nat.reduceSub, Nat.reduceMul, Int.reduceLT, Int.reduceLE, Int.reduceEq, Int.reduceNeg]
    rw [if_neg h0]
    exact l20_chosen_loop (f := f) (g := g) hl (by omega) hb hb8 0 (by omega) [] rfl
@[go_sem] theorem l20_chosen_call {f g : SlF} {l : List Com} {b : List Nat} (hl : Fits l) (hb : Fits b) (hb8 : ∀ n ∈ b, n < 256) {Q : Post3} {k : List Item} {os : List AOper} {d : Option Nat} {e : Env} {σ : Sto} : CallK T Q k os d e σ true i_l20_chosen [coms f l, bytesV g b] ↔ Run T Q (.ops os :: k) (put e d (noms .lst (chosen l b))) σ := l20_chosen_spec hl hb hb8


end Go.Abs
/- The walk of Closure's own closure. -/
set_option linter.unusedSimpArgs false
set_option linter.unusedVariables false
set_option maxRecDepth 100000
set_option maxHeartbeats 4000000
namespace Go.Abs
open Go

abbrev addV : AVal := .clo (.func i_cut_Closure_1) [] [.ptr 1 1 0, .ptr 0 1 0, .ptr 3 1 0, .ptr 4 1 0]
abbrev Bst (f : SlF) (l : List Com) (c : List Int) (ρ : Sto) : Sto := .cells false [coms f l] :: .cells false [fmapN (nmap l)] :: .cells false (c.map fun n => .int .i64 n) :: .cells false [.ref 2 6 0 6 1] :: .cells false [addV] :: ρ

theorem get5a {x y : AObj} {ρ : Sto} : (ρ ++ [x] ++ [y])[ρ.length]? = some x := by simp
theorem get5c {x : AObj} {ρ : Sto} : (ρ ++ [x])[ρ.length]? = some x := by simp
theorem get5b {x y : AObj} {ρ : Sto} : (ρ ++ [x] ++ [y])[ρ.length + 1]? = some y := by simp
theorem set5 {x y z : AObj} {ρ : Sto} : (ρ ++ [x] ++ [y]).set (ρ.length + 1) z = ρ ++ [x] ++ [z] := by simp
theorem len6 {x : AObj} {ρ : Sto} : (ρ ++ [x]).length + 5 = ρ.length + 6 := by simp
theorem len5 {a b c d e : AObj} {ρ : Sto} : (a :: b :: c :: d :: e :: ρ).length = ρ.length + 5 := rfl

theorem add_head {f : SlF} {l : List Com} {c : List Int} {i : Nat} {ρ : Sto} {R : Post} (hl : Fits l) (hc : valid c = true) (hi : i < l.length) (hw : wf l[i] = true) {s : Nat} {q : Int} (hs : s < 6) (hm : (nmap l).get ⟨s, q⟩ = some i)
    (next : Run T (Ret [.tmp 6] R) (.inLoop cut_Closure_1.b0 :: cut_Closure_1.k0) (mkE 69 [(1, .ptr 1 1 0), (2, .ptr 0 1 0), (3, .ptr 3 1 0), (4, .ptr 4 1 0), (40, .ref (ρ.length + 6) 6 0 6 1), (41, .int .i64 6), (42, .int .i64 0)]) (Bst f l c (ρ ++ [.cells false [.int .i64 s, .int .i64 q]] ++ [.cells false ((l[i].past.set s q).map fun n => .int .i64 n)]))) :
    Cw T false i_cut_Closure_1 [.agg [.int .i64 (s : Int), .int .i64 q], .ptr 1 1 0, .ptr 0 1 0, .ptr 3 1 0, .ptr 4 1 0] [] (Bst f l c ρ) R := by
  rw [cw_enter T_cut_Closure_1 (by simp), run_unfold cut_Closure_1.main.eq_1]
  simp (maxSteps := 2000000) only [go_sem, ↓reduceIte, Nat.reduceLT, Nat.reduceEqDiff, Nat.reduceLeDiff, Nat.reduceAdd, Nat.reduceSub, Nat.reduceMul, Int.reduceLT, Int.reduceLE, Int.reduceEq, Int.reduceNeg, get5c, ↓len5, hi, hw, hm]
  have hv : valid l[i].past = true := by unfold wf at hw; simp only [Bool.and_eq_true] at hw; exact hw.1.2
  unfold CallK
  rw [slices_Clone_int_spec (ne_nil_of_valid hv) (bytes_of_valid hv)]
  simp (maxSteps := 2000000) only [go_sem, ↓reduceIte, Nat.reduceLT, Nat.reduceEqDiff, Nat.reduceLeDiff, Nat.reduceAdd, Nat.reduceSub, Nat.reduceMul, Int.reduceLT, Int.reduceLE, Int.reduceEq, Int.reduceNeg, get5a, get5b, set5, len6, ↓len5, valid_len hv, hs, show s ≤ 5 by omega, show s + 1 ≤ 6 by omega, List.length_set]
  exact next

/-- what a nested call does -/
def AddOk (f : SlF) (l : List Com) (c : List Int) (s : Nat) (q : Int) (c2 : List Int) : Prop := ∀ {ρ : Sto} {R : Post}, (∀ p, ρ.all (AObj.under p) = true) → (∀ x y, R (.bool true) (Bst f l c2 (ρ ++ [x] ++ [y]))) →
    Cw T false i_cut_Closure_1 [.agg [.int .i64 (s : Int), .int .i64 q], .ptr 1 1 0, .ptr 0 1 0, .ptr 3 1 0, .ptr 4 1 0] [] (Bst f l c ρ) R

theorem add_round {f : SlF} {l : List Com} {c c2 : List Int} {ρ : Sto} {Q : Post3} {n j : Nat} {m : Int} {k : List Item} (hc : valid c = true) (hj : j < 6) (hlt : c.getD j 0 < m) (hm : m ≤ 999) (hn : n < ρ.length + 5) (hρ : ∀ p, ρ.all (AObj.under p) = true) (hok : AddOk f l (c.set j (c.getD j 0 + 1)) j (c.getD j 0 + 1) c2)
    (next : Run T Q (.inLoop cut_Closure_1.b1 :: k) (mkE 69 [(1, .ptr 1 1 0), (2, .ptr 0 1 0), (3, .ptr 3 1 0), (4, .ptr 4 1 0), (10, .int .i64 j), (11, .int .i64 m), (40, .ref n 6 0 6 1), (41, .int .i64 6), (42, .int .i64 j)]) (Bst f l c2 ρ)) :
    Run T Q (.inLoop cut_Closure_1.b1 :: k) (mkE 69 [(1, .ptr 1 1 0), (2, .ptr 0 1 0), (3, .ptr 3 1 0), (4, .ptr 4 1 0), (10, .int .i64 j), (11, .int .i64 m), (40, .ref n 6 0 6 1), (41, .int .i64 6), (42, .int .i64 j)]) (Bst f l c ρ) := by
  rw [run_round, run_unfold cut_Closure_1.b1.eq_1]
  have h6 := valid_len hc
  have hjl : j < c.length := by omega
  have hg : c.getD j 0 = c[j] := by rw [List.getD_eq_getElem?_getD, List.getElem?_eq_getElem hjl]; rfl
  rw [hg] at hlt hok
  obtain ⟨v, hv1, hv2, _⟩ := valid_get hc hjl
  have hw : IntKind.i64.wrap (c[j] + 1) = c[j] + 1 := wrap_i64 (by omega) (by omega)
  have hjs : j < (c.set j (c[j] + 1)).length := by rw [List.length_set]; exact hjl
  simp (maxSteps := 2000000) only [go_sem, ↓reduceIte, Nat.reduceLT, Nat.reduceEqDiff, Nat.reduceLeDiff, Nat.reduceAdd, Nat.reduceSub, Nat.reduceMul, Int.reduceLT, Int.reduceLE, Int.reduceEq, Int.reduceNeg, ↓len5, hj, hjl, h6, hlt, hw, hjs, List.length_set, List.getElem_set_self, show j ≤ 5 by omega, show j + 1 ≤ 6 by omega]
  refine hok hρ fun x y => ?_
  have htake : (ρ ++ [x] ++ [y]).take ρ.length = ρ := by simp
  simp (maxSteps := 2000000) only [go_sem, ↓reduceIte, Nat.reduceLT, Nat.reduceEqDiff, Nat.reduceLeDiff, Nat.reduceAdd, Nat.reduceSub, Nat.reduceMul, Int.reduceLT, Int.reduceLE, Int.reduceEq, Int.reduceNeg, ↓len5, htake, hρ, hn, show 2 < ρ.length + 5 by omega, show 1 < ρ.length + 5 by omega, show 0 < ρ.length + 5 by omega, show 3 < ρ.length + 5 by omega, show 4 < ρ.length + 5 by omega]
  exact next

end Go.Abs
/- The closure of Closure: its loops. -/
set_option linter.unusedSimpArgs false
set_option linter.unusedVariables false
set_option maxRecDepth 100000
set_option maxHeartbeats 4000000
namespace Go.Abs
open Go

/-- what stands after the loop for station j: more than before, no more than the target D asks for -/
structure Grown (D c c2 : List Int) : Prop where
  v : valid c2 = true
  lo : le c c2
  hi : le c2 (maxL c D)

theorem Grown.trans {D a b c : List Int} (va : valid a = true) (vb : valid b = true) (vD : valid D = true) (h1 : Grown D a b) (h2 : Grown D b c) : Grown D a c := by
  refine ⟨h2.v, fun t => Int.le_trans (h1.lo t) (h2.lo t), fun t => ?_⟩
  have e1 := h1.hi t
  have e2 := h2.hi t
  rw [getD_maxL (by rw [valid_len va, valid_len vD])] at e1 ⊢
  rw [getD_maxL (by rw [valid_len vb, valid_len vD])] at e2
  split at e1 <;> split at e2 <;> split <;> omega

theorem total_mono {a b : List Int} (ha : a.length = 6) (hb : b.length = 6) (h : le a b) : total a ≤ total b := by
  obtain ⟨a0, a1, a2, a3, a4, a5, rfl⟩ := six ha
  obtain ⟨b0, b1, b2, b3, b4, b5, rfl⟩ := six hb
  have h0 : a0 ≤ b0 := h 0
  have h1 : a1 ≤ b1 := h 1
  have h2 : a2 ≤ b2 := h 2
  have h3 : a3 ≤ b3 := h 3
  have h4 : a4 ≤ b4 := h 4
  have h5 : a5 ≤ b5 := h 5
  simp only [total, List.map_cons, List.map_nil, List.sum_cons, List.sum_nil]
  omega

theorem own_valid {l : List Com} {e : Com} (h : CGood l e) : valid (own e) = true := by
  rw [valid_iff]
  refine ⟨by unfold own; rw [List.length_set]; exact h.len, fun t => ?_⟩
  have h1 := (valid_iff.1 h.valid).2 t
  have h2 := h.seq
  have h3 := h.pst
  rw [own_get h]
  split <;> omega

theorem add_b1 {f : SlF} {l : List Com} (hl : LGood l) {D : List Int} (vD : valid D = true) (hD : Clo l D) {N n j : Nat} {ρ : Sto} {Q : Post3} {k : List Item} (hj : j < 6) (hn : n < ρ.length + 5) (hρ : ∀ p, ρ.all (AObj.under p) = true)
    (calls : ∀ c, valid c = true → 6000 - total c < N → ∀ e ∈ l, AddOk f l c e.st.toNat e.seq (maxL c (own e))) :
    ∀ M (c : List Int), valid c = true → 6000 - total c ≤ M → M ≤ N →
    (∀ c2, Grown D c c2 → D.getD j 0 ≤ c2.getD j 0 → Run T Q k (mkE 69 [(1, .ptr 1 1 0), (2, .ptr 0 1 0), (3, .ptr 3 1 0), (4, .ptr 4 1 0), (40, .ref n 6 0 6 1), (41, .int .i64 6), (42, .int .i64 j)]) (Bst f l c2 ρ)) →
    Run T Q (.inLoop cut_Closure_1.b1 :: .inBlock 2 :: .code (.ghost (.kill [10, 11, 52])) :: k) (mkE 69 [(1, .ptr 1 1 0), (2, .ptr 0 1 0), (3, .ptr 3 1 0), (4, .ptr 4 1 0), (10, .int .i64 j), (11, .int .i64 (D.getD j 0)), (40, .ref n 6 0 6 1), (41, .int .i64 6), (42, .int .i64 j)]) (Bst f l c ρ) := by
  intro M
  induction M with
  | zero => intro c hv h0; have := total_le hv; omega
  | succ M ih =>
    intro c hv hM hMN next
    by_cases hlt : c.getD j 0 < D.getD j 0
    · have h6 := valid_len hv
      have b1 := (valid_iff.1 hv).2 j
      have b2 := (valid_iff.1 vD).2 j
      obtain ⟨e, he, e1, e2, e3⟩ := hD j (c.getD j 0 + 1) (by omega) (by omega)
      have hvs : valid (c.set j (c.getD j 0 + 1)) = true := by
        rw [valid_iff]
        refine ⟨by rw [List.length_set]; exact h6, fun t => ?_⟩
        rw [getD_set (by omega)]
        have := (valid_iff.1 hv).2 t
        split <;> omega
      have ge := hl.coms e he
      have ve := own_valid ge
      have vm := valid_maxL hvs ve
      have ht := total_set (o := c) (i := j) (v := (c.getD j 0).toNat + 1) (by omega)
      have hcast : (((c.getD j 0).toNat + 1 : Nat) : Int) = c.getD j 0 + 1 := by omega
      rw [hcast] at ht
      have hmono := total_mono (valid_len hvs) (valid_len vm) (le_maxL1 (by rw [valid_len hvs, valid_len ve]))
      refine add_round hv hj hlt (by omega) hn hρ (c2 := maxL (c.set j (c.getD j 0 + 1)) (own e)) ?_ ?_
      · have key : AddOk f l (c.set j (c.getD j 0 + 1)) e.st.toNat e.seq (maxL (c.set j (c.getD j 0 + 1)) (own e)) := @calls _ hvs (by have := total_le hvs; omega) e he
        rw [e1, e2, Int.toNat_natCast] at key
        exact @key
      · refine ih _ vm (by have := total_le vm; omega) (by omega) fun c2 g hd => next c2 (Grown.trans hv vm vD ⟨vm, fun t => ?_, fun t => ?_⟩ g) hd
        · rw [getD_maxL (by rw [valid_len hvs, valid_len ve]), getD_set (by omega)]
          split <;> (try split) <;> (try subst_vars) <;> omega
        · have := e3 t
          rw [getD_maxL (by rw [valid_len hvs, valid_len ve]), getD_set (by omega), getD_maxL (by rw [valid_len hv, valid_len vD])]
          by_cases htj : t = j
          · subst htj; simp only [if_true]; (repeat' split) <;> omega
          · simp only [if_neg htj]; (repeat' split) <;> omega
    · have h6 := valid_len hv
      have hjl : j < c.length := by omega
      have hg : c.getD j 0 = c[j] := by rw [List.getD_eq_getElem?_getD, List.getElem?_eq_getElem hjl]; rfl
      have hge : D.getD j 0 ≤ c.getD j 0 := by omega
      rw [hg] at hlt
      rw [run_round, run_unfold cut_Closure_1.b1.eq_1]
      simp (maxSteps := 2000000) only [go_sem, ↓reduceIte, Nat.reduceLT, Nat.reduceEqDiff, Nat.reduceLeDiff, Nat.reduceAdd, Nat.reduceSub, Nat.reduceMul, Int.reduceLT, Int.reduceLE, Int.reduceEq, Int.reduceNeg, ↓len5, hj, hjl, h6, hlt]
      exact next c ⟨hv, fun t => Int.le_refl _, le_maxL1 (by rw [h6, valid_len vD])⟩ hge

/-- all of the stations -/
theorem add_b0 {f : SlF} {l : List Com} (hl : LGood l) {D : List Int} (vD : valid D = true) (hD : Clo l D) {N n : Nat} {ρ : Sto} {R : Post} (hn : n < ρ.length + 5) (hρ : ∀ p, ρ.all (AObj.under p) = true)
    (hg : ∀ c, (Bst f l c ρ)[n]? = some (.cells false (D.map fun n => .int .i64 n)))
    (calls : ∀ c, valid c = true → 6000 - total c < N → ∀ e ∈ l, AddOk f l c e.st.toNat e.seq (maxL c (own e))) {c0 : List Int} (v0 : valid c0 = true) (h0 : 6000 - total c0 ≤ N)
    (done : R (.bool true) (Bst f l (maxL c0 D) ρ)) {x y : List (Nat × AVal)} : ∀ j, j ≤ 6 → ∀ c, Grown D c0 c → (∀ t, t < j → D.getD t 0 ≤ c.getD t 0) →
    Run T (Ret [.tmp 6] R) (.inLoop cut_Closure_1.b0 :: cut_Closure_1.k0) (mkE 69 [(1, .ptr 1 1 0), (2, .ptr 0 1 0), (3, .ptr 3 1 0), (4, .ptr 4 1 0), (40, .ref n 6 0 6 1), (41, .int .i64 6), (42, .int .i64 j)]) (Bst f l c ρ) := by
  refine up_ind ?_ fun j hj ih => ?_
  · intro c g hlo
    rw [run_round, run_unfold cut_Closure_1.b0.eq_1]
    simp (maxSteps := 2000000) only [go_sem, ↓reduceIte, Nat.reduceLT, Nat.reduceEqDiff, Nat.reduceLeDiff, Nat.reduceAdd, Nat.reduceSub, Nat.reduceMul, Int.reduceLT, Int.reduceLE, Int.reduceEq, Int.reduceNeg, run_unfold cut_Closure_1.c0.eq_1, run_unfold cut_Closure_1.c1.eq_1, run_unfold cut_Closure_1.c2.eq_1, cut_Closure_1.k0, cut_Closure_1.k1]
    have l0 := valid_len v0
    have lD := valid_len vD
    have : maxL c0 D = c := ext6 (len_maxL l0 lD) (valid_len g.v) fun t => by
      have e1 := g.lo t
      have e2 := g.hi t
      rw [getD_maxL (by rw [l0, lD])] at e2 ⊢
      by_cases ht : t < 6
      · have := hlo t ht
        split at e2 <;> omega
      · have z1 : D.getD t 0 = 0 := by rw [List.getD_eq_getElem?_getD, List.getElem?_eq_none (by omega)]; rfl
        have z2 : c.getD t 0 = 0 := by rw [List.getD_eq_getElem?_getD, List.getElem?_eq_none (by have := valid_len g.v; omega)]; rfl
        have z3 : c0.getD t 0 = 0 := by rw [List.getD_eq_getElem?_getD, List.getElem?_eq_none (by omega)]; rfl
        rw [z1, z2, z3]; rfl
    rw [← this]
    exact done
  · intro c g hlo
    rw [run_round, run_unfold cut_Closure_1.b0.eq_1]
    have hjD : j < D.length := by have := valid_len vD; omega
    have hDj : D.getD j 0 = D[j] := by rw [List.getD_eq_getElem?_getD, List.getElem?_eq_getElem hjD]; rfl
    simp (maxSteps := 2000000) only [go_sem, ↓reduceIte, Nat.reduceLT, Nat.reduceEqDiff, Nat.reduceLeDiff, Nat.reduceAdd, Nat.reduceSub, Nat.reduceMul, Int.reduceLT, Int.reduceLE, Int.reduceEq, Int.reduceNeg, ↓len5, hj, hg, hjD, valid_len vD, show ((j : Int) < 6) by omega, show j ≤ 5 by omega, show j + 1 ≤ 6 by omega]
    rw [← hDj]
    have hm := total_mono (valid_len v0) (valid_len g.v) g.lo
    refine add_b1 (f := f) hl vD hD (Q := Ret [.tmp 6] R) hj hn hρ calls (6000 - total c) c g.v (Nat.le_refl _) (by omega) fun c2 g2 hd => ?_
    have htake : ρ.take ρ.length = ρ := by simp
    simp (maxSteps := 2000000) only [go_sem, ↓reduceIte, Nat.reduceLT, Nat.reduceEqDiff, Nat.reduceLeDiff, Nat.reduceAdd, Nat.reduceSub, Nat.reduceMul, Int.reduceLT, Int.reduceLE, Int.reduceEq, Int.reduceNeg, ↓len5, htake, hρ, hn, show 2 < ρ.length + 5 by omega, show 1 < ρ.length + 5 by omega, show 0 < ρ.length + 5 by omega, show 3 < ρ.length + 5 by omega, show 4 < ρ.length + 5 by omega, run_unfold cut_Closure_1.c0.eq_1, run_unfold cut_Closure_1.c1.eq_1, run_unfold cut_Closure_1.c2.eq_1, cut_Closure_1.k0, cut_Closure_1.k1, wrap_succ (show j < 9223372036854775807 by omega)]
    exact ih c2 (Grown.trans v0 g.v vD g g2) fun t ht => by
      by_cases e : t = j
      · rw [e]; exact hd
      · have := hlo t (by omega); have := g2.lo t; omega

end Go.Abs
/- Closure: what it computes. -/
set_option linter.unusedSimpArgs false
set_option linter.unusedVariables false
set_option maxRecDepth 100000
set_option maxHeartbeats 4000000
namespace Go.Abs
open Go

theorem own_clo {l : List Com} {e : Com} (h : CGood l e) (he : e ∈ l) : Clo l (own e) := by
  intro t q h1 h2
  rw [own_get h] at h2
  have hs := h.seq
  have h0 := h.s0
  by_cases ht : t = e.st.toNat
  · rw [if_pos ht] at h2
    by_cases hq : q = e.seq
    · exact ⟨e, he, by omega, hq.symm, fun _ => Int.le_refl _⟩
    · obtain ⟨c, hc, e1, e2, e3⟩ := h.clo t q h1 (by rw [ht]; omega)
      exact ⟨c, hc, e1, e2, fun u => Int.le_trans (e3 u) (past_le_own h u)⟩
  · rw [if_neg ht] at h2
    obtain ⟨c, hc, e1, e2, e3⟩ := h.clo t q h1 h2
    exact ⟨c, hc, e1, e2, fun u => Int.le_trans (e3 u) (past_le_own h u)⟩

theorem isN_iff {n : Nam} {c : Com} : isN n c = true ↔ c.st = n.st ∧ c.seq = n.seq := by simp [isN]
theorem find_self {l : List Com} (hl : LGood l) {e : Com} (he : e ∈ l) : l.find? (isN e.nam) = some e := by
  cases h : l.find? (isN e.nam) with
  | none =>
    rw [List.find?_eq_none] at h
    exact absurd (by simp [isN, Com.nam]) (h e he)
  | some x =>
    have hx := List.find?_some h
    rw [isN_iff] at hx
    rw [nd_eq hl.nd (List.mem_of_find?_eq_some h) he hx.1 hx.2]

theorem nmap_self {l : List Com} (hl : LGood l) {i : Nat} (hi : i < l.length) : (nmap l).get l[i].nam = some i := by
  rcases nmap_cases l l[i].nam with ⟨_, h⟩ | ⟨j, hj, h1, h2⟩
  · rw [find_self hl (List.getElem_mem hi)] at h; simp at h
  · rw [find_self hl (List.getElem_mem hi)] at h2
    have e := Option.some.inj h2
    rw [h1]
    by_cases hij : i = j
    · rw [hij]
    · exfalso
      have hp := List.pairwise_iff_getElem.1 hl.nd
      rcases Nat.lt_or_gt_of_ne hij with hlt | hlt
      · exact hp i j hi hj hlt ⟨by rw [e], by rw [e]⟩
      · exact hp j i hj hi hlt ⟨by rw [e], by rw [e]⟩

theorem add_ok {f : SlF} {l : List Com} (hf : Fits l) (hl : LGood l) : ∀ N (c : List Int), valid c = true → 6000 - total c < N → ∀ e ∈ l, AddOk f l c e.st.toNat e.seq (maxL c (own e)) := by
  intro N
  induction N with
  | zero => intro c _ h; omega
  | succ N ih =>
    intro c hv hN e he ρ R hρ hR
    obtain ⟨i, hi, rfl⟩ := List.getElem_of_mem he
    have ge := hl.coms _ he
    have hst : ((l[i].st.toNat : Nat) : Int) = l[i].st := by have := ge.s0; omega
    have hget : (nmap l).get ⟨((l[i].st.toNat : Nat) : Int), l[i].seq⟩ = some i := by rw [hst]; exact nmap_self hl hi
    refine add_head hf hv hi ge.wf ge.st6 hget ?_
    have hp : ∀ p, (ρ ++ [AObj.cells false [.int .i64 ((l[i].st.toNat : Nat) : Int), .int .i64 l[i].seq]] ++ [AObj.cells false ((own l[i]).map fun n => AVal.int .i64 n)]).all (AObj.under p) = true := by
      intro p
      simp only [List.all_append, hρ p, List.all_cons, List.all_nil, AObj.under]
      simp (maxSteps := 2000000) only [go_sem, ↓reduceIte, Nat.reduceLT, Nat.reduceEqDiff, Nat.reduceLeDiff, Nat.reduceAdd, Nat.reduceSub, Nat.reduceMul, Int.reduceLT, Int.reduceLE, Int.reduceEq, Int.reduceNeg]
    have v6 := valid_len hv
    have vo := own_valid ge
    refine add_b0 (n := ρ.length + 6) (f := f) hl vo (own_clo ge he) (by simp) hp (fun c => ?_) (ih) hv (by omega) ?_ (x := []) (y := []) 0 (by omega) c ⟨hv, fun _ => Int.le_refl _, le_maxL1 (by rw [v6, valid_len vo])⟩ (fun t h => by omega)
    · simp
    · exact hR _ _

def ownOf (l : List Com) (n : Nam) : List Int := match l.find? (isN n) with
  | some e => own e
  | none => zeros
def cloF (l : List Com) (ns : List Nam) : List Int := ns.foldl (fun c n => maxL c (ownOf l n)) zeros
def Mem (l : List Com) (n : Nam) : Prop := ∃ e ∈ l, e.nam = n

theorem ownOf_mem {l : List Com} (hl : LGood l) {e : Com} (he : e ∈ l) : ownOf l e.nam = own e := by
  unfold ownOf; rw [find_self hl he]

theorem fold_clo {l : List Com} (hl : LGood l) : ∀ (ns : List Nam) (c : List Int), (∀ n ∈ ns, Mem l n) → valid c = true →
    valid (ns.foldl (fun c n => maxL c (ownOf l n)) c) = true ∧ le c (ns.foldl (fun c n => maxL c (ownOf l n)) c) ∧ (∀ n ∈ ns, le (ownOf l n) (ns.foldl (fun c n => maxL c (ownOf l n)) c)) ∧
    ∀ d, valid d = true → le c d → (∀ n ∈ ns, le (ownOf l n) d) → le (ns.foldl (fun c n => maxL c (ownOf l n)) c) d
  | [], c, _, hv => ⟨hv, fun _ => Int.le_refl _, fun n h => by simp at h, fun d _ h _ => h⟩
  | n :: ns, c, hm, hv => by
    obtain ⟨e, he, rfl⟩ := hm n (by simp)
    have vo := own_valid (hl.coms e he)
    have hlen : c.length = (own e).length := by rw [valid_len hv, valid_len vo]
    obtain ⟨h1, h2, h3, h4⟩ := fold_clo hl ns (maxL c (ownOf l e.nam)) (fun n h => hm n (by simp [h])) (by rw [ownOf_mem hl he]; exact valid_maxL hv vo)
    rw [List.foldl_cons]
    rw [ownOf_mem hl he] at h1 h2 h3 h4 ⊢
    refine ⟨h1, fun t => Int.le_trans (le_maxL1 hlen t) (h2 t), fun m hm' => ?_, fun d vd hc hall => h4 d vd (fun t => ?_) fun m hm' => hall m (by simp [hm'])⟩
    · rcases List.mem_cons.1 hm' with rfl | hm'
      · rw [ownOf_mem hl he]; exact fun t => Int.le_trans (le_maxL2 hlen t) (h2 t)
      · exact h3 m hm'
    · rw [getD_maxL hlen]
      have := hall e.nam (by simp)
      rw [ownOf_mem hl he] at this
      have := this t
      have := hc t
      split <;> omega

theorem zeros_valid : valid zeros = true := by decide
structure CloOk (l : List Com) (ns : List Nam) (c : List Int) : Prop where
  v : valid c = true
  has : ∀ n ∈ ns, le (ownOf l n) c
  least : ∀ d, valid d = true → (∀ n ∈ ns, le (ownOf l n) d) → le c d
theorem cloF_ok {l : List Com} (hl : LGood l) {ns : List Nam} (h : ∀ n ∈ ns, Mem l n) : CloOk l ns (cloF l ns) := by
  obtain ⟨h1, h2, h3, h4⟩ := fold_clo hl ns zeros h zeros_valid
  refine ⟨h1, h3, fun d vd hall => h4 d vd (fun t => ?_) hall⟩
  have := ((valid_iff.1 vd).2 t).1
  have hz : zeros.getD t 0 = 0 := by
    rw [List.getD_eq_getElem?_getD]
    match t with
    | 0 | 1 | 2 | 3 | 4 | 5 => rfl
    | t + 6 => rfl
  omega
theorem le_anti {a b : List Int} (ha : valid a = true) (hb : valid b = true) (h1 : le a b) (h2 : le b a) : a = b := ext6 (valid_len ha) (valid_len hb) fun t => by have := h1 t; have := h2 t; omega

theorem clo_append {l : List Com} (hl : LGood l) {m n : List Nam} (hm : ∀ x ∈ m, Mem l x) (hn : ∀ x ∈ n, Mem l x) : maxL (cloF l m) (cloF l n) = cloF l (m ++ n) := by
  have A := cloF_ok hl hm
  have B := cloF_ok hl hn
  have C := cloF_ok hl (ns := m ++ n) (by intro x hx; exact (List.mem_append.1 hx).elim (hm x) (hn x))
  have hlen : (cloF l m).length = (cloF l n).length := by rw [valid_len A.v, valid_len B.v]
  refine le_anti (valid_maxL A.v B.v) C.v (fun t => ?_) (C.least _ (valid_maxL A.v B.v) fun x hx => ?_)
  · have h1 := A.least _ C.v (fun x hx => C.has x (by simp [hx])) t
    have h2 := B.least _ C.v (fun x hx => C.has x (by simp [hx])) t
    rw [getD_maxL hlen]
    split <;> omega
  · rcases List.mem_append.1 hx with h | h
    · exact fun t => Int.le_trans (A.has x h t) (le_maxL1 hlen t)
    · exact fun t => Int.le_trans (B.has x h t) (le_maxL2 hlen t)

theorem clo_clo {l : List Com} (hl : LGood l) {ns : List Nam} (h : ∀ n ∈ ns, Mem l n) : Clo l (cloF l ns) := by
  have key : ∀ (ns : List Nam) (c : List Int), (∀ n ∈ ns, Mem l n) → valid c = true → Clo l c → Clo l (ns.foldl (fun c n => maxL c (ownOf l n)) c) := by
    intro ns
    induction ns with
    | nil => intro c _ _ hc; exact hc
    | cons n ns ih =>
      intro c hm hv hc
      obtain ⟨e, he, rfl⟩ := hm n (by simp)
      have vo := own_valid (hl.coms e he)
      rw [List.foldl_cons]
      refine ih _ (fun n h => hm n (by simp [h])) ?_ ?_
      · rw [ownOf_mem hl he]; exact valid_maxL hv vo
      · rw [ownOf_mem hl he]; exact hc.join (by rw [valid_len hv, valid_len vo]) (own_clo (hl.coms e he) he)
  refine key ns zeros h zeros_valid fun t q h1 h2 => ?_
  have hz : zeros.getD t 0 = 0 := by
    rw [List.getD_eq_getElem?_getD]
    match t with
    | 0 | 1 | 2 | 3 | 4 | 5 => rfl
    | t + 6 => rfl
  omega

/-- in a good list, what is closed by its commits is closed -/
theorem closed_of_clo {l : List Com} (hl : LGood l) {c : List Int} (hv : valid c = true) (h : Clo l c) : closed l c = true := by
  rw [closed_all hv]
  intro s hs j h1 h2
  obtain ⟨e, he, e1, e2, e3⟩ := h s j (by omega) h2
  have hn : (⟨(s : Int), (j : Int)⟩ : Nam) = e.nam := by unfold Com.nam; rw [e1, e2]
  unfold okq
  rw [hn, find_self hl he]
  have ge := hl.coms e he
  simp only [ge.wf, Bool.true_and]
  exact leq_of_le ge.valid hv fun t => Int.le_trans (past_le_own ge t) (e3 t)
theorem clo_of_closed {l : List Com} (hl : LGood l) {c : List Int} (hv : valid c = true) (h : closed l c = true) : Clo l c := by
  intro t q h1 h2
  have ht : t < 6 := by
    by_cases ht : t < 6
    · exact ht
    · have : c.getD t 0 = 0 := by rw [List.getD_eq_getElem?_getD, List.getElem?_eq_none (by rw [valid_len hv]; omega)]; rfl
      omega
  have hk := (closed_all hv).1 h t ht q.toNat (by omega) (by omega)
  have hq : ((q.toNat : Nat) : Int) = q := by omega
  unfold okq at hk
  rw [hq] at hk
  split at hk
  · rename_i e he
    have hx := List.find?_some he
    have hm := List.mem_of_find?_eq_some he
    rw [isN_iff] at hx
    simp only [Bool.and_eq_true] at hk
    have ge := hl.coms e hm
    refine ⟨e, hm, hx.1, hx.2, fun u => ?_⟩
    rw [own_get ge]
    split
    · rename_i hu
      have : u = t := by have h3 : e.st = (t : Int) := hx.1; omega
      rw [this, hx.2]; exact h2
    · exact (leq_iff ge.valid hv).1 hk.2 u
  · simp at hk

theorem has_iff {l : List Com} (hl : LGood l) {c : List Int} (hv : valid c = true) {e : Com} (he : e ∈ l) : has c e.nam = true ↔ e.seq ≤ c.getD e.st.toNat 0 := by
  have ge := hl.coms e he
  have h0 := ge.s0
  have h1 := ge.s3
  have h2 := ge.seq
  have h3 := ge.pst
  have : has c e.nam = true ↔ ((0 ≤ e.st ∧ e.st < 6) ∧ 1 ≤ e.seq) ∧ e.seq ≤ c.getD e.st.toNat 0 := by
    simp only [has, hv, Bool.true_and, Bool.and_eq_true, decide_eq_true_eq]
    exact Iff.rfl
  rw [this]
  exact ⟨fun h => h.2, fun h => ⟨⟨⟨h0, by omega⟩, by omega⟩, h⟩⟩
theorem has_own {l : List Com} (hl : LGood l) {c : List Int} (hv : valid c = true) (hc : Clo l c) {e : Com} (he : e ∈ l) : has c e.nam = true ↔ le (own e) c := by
  rw [has_iff hl hv he]
  have ge := hl.coms e he
  have h2 := ge.seq
  have h3 := ge.pst
  constructor
  · intro h
    obtain ⟨x, hx, e1, e2, e3⟩ := hc e.st.toNat e.seq (by omega) h
    have : x = e := nd_eq hl.nd hx he (by have := ge.s0; omega) e2
    rw [← this]; exact e3
  · intro h
    have := h e.st.toNat
    rw [own_get ge, if_pos rfl] at this
    exact this

/-- the plain law of CutClosures -/
structure Closures (l : List Com) (m n : List Nam) (c : List Int) : Prop where
  va : valid (cloF l m) = true
  vb : valid (cloF l n) = true
  cl : closedP l (cloF l m) = true
  both : maxL (cloF l m) (cloF l n) = cloF l (m ++ n)
  has : ∀ x ∈ m, has (cloF l m) x = true
  leq : leq (cloF l m) c = m.all (Go.Abs.has c)
  all : cloF l ((l.filter fun e => Go.Abs.has c e.nam).map Com.nam) = c

theorem closures_good {l : List Com} (hl : LGood l) {m n : List Nam} (hm : ∀ x ∈ m, Mem l x) (hn : ∀ x ∈ n, Mem l x) {c : List Int} (vc : valid c = true) (cc : closed l c = true) : Closures l m n c := by
  have A := cloF_ok hl hm
  have B := cloF_ok hl hn
  have Cc := clo_of_closed hl vc cc
  refine ⟨A.v, B.v, closedP_of (closed_of_clo hl A.v (clo_clo hl hm)), clo_append hl hm hn, fun x hx => ?_, ?_, ?_⟩
  · obtain ⟨e, he, rfl⟩ := hm x hx
    rw [has_own hl A.v (clo_clo hl hm) he, ← ownOf_mem hl he]
    exact A.has _ hx
  · have : leq (cloF l m) c = true ↔ m.all (Go.Abs.has c) = true := by
      rw [leq_iff A.v vc, List.all_eq_true]
      constructor
      · intro h x hx
        obtain ⟨e, he, rfl⟩ := hm x hx
        rw [has_own hl vc Cc he, ← ownOf_mem hl he]
        exact fun t => Int.le_trans (A.has _ hx t) (h t)
      · intro h
        refine A.least c vc fun x hx => ?_
        obtain ⟨e, he, rfl⟩ := hm x hx
        rw [ownOf_mem hl he, ← has_own hl vc Cc he]
        exact h _ hx
    cases h1 : leq (cloF l m) c <;> cases h2 : m.all (Go.Abs.has c) <;> simp [h1, h2] at this ⊢
  · have hmem : ∀ x ∈ (l.filter fun e => Go.Abs.has c e.nam).map Com.nam, Mem l x := by
      intro x hx
      obtain ⟨e, he, rfl⟩ := List.mem_map.1 hx
      exact ⟨e, (List.mem_filter.1 he).1, rfl⟩
    have D := cloF_ok hl hmem
    refine le_anti D.v vc (D.least c vc fun x hx => ?_) fun t => ?_
    · obtain ⟨e, he, rfl⟩ := List.mem_map.1 hx
      obtain ⟨h1, h2⟩ := List.mem_filter.1 he
      rw [ownOf_mem hl h1]
      exact (has_own hl vc Cc h1).1 h2
    · have h0 := ((valid_iff.1 D.v).2 t).1
      by_cases hq : 1 ≤ c.getD t 0
      · obtain ⟨e, he, e1, e2, e3⟩ := Cc t _ hq (Int.le_refl _)
        have hh := (has_own hl vc Cc he).2 e3
        have := D.has e.nam (List.mem_map.2 ⟨e, List.mem_filter.2 ⟨he, hh⟩, rfl⟩) t
        rw [ownOf_mem hl he, own_get (hl.coms e he), if_pos (by omega), e2] at this
        exact this
      · omega

end Go.Abs
/- Plain laws of chapter 20: the greatest closed cut. -/
set_option linter.unusedSimpArgs false
set_option linter.unusedVariables false
set_option maxRecDepth 100000
namespace Go.Abs
open Go

theorem firstS_some {l : List Com} {c : List Int} {s : Nat} : ∀ d i, firstS l c i d = some s → i ≤ s ∧ s < i + d ∧ full l c s = false
  | 0, i, h => by simp [firstS] at h
  | d + 1, i, h => by
    unfold firstS at h
    split at h
    · have h2 := firstS_some d (i + 1) h
      exact ⟨by omega, by omega, h2.2.2⟩
    · rename_i hf
      obtain rfl : i = s := Option.some.inj h
      exact ⟨by omega, by omega, by simpa using hf⟩
theorem firstS_all {l : List Com} {c : List Int} : ∀ d i, firstS l c i d = none → ∀ s, i ≤ s → s < i + d → full l c s = true
  | 0, i, _, s, h1, h2 => by omega
  | d + 1, i, h, s, h1, h2 => by
    unfold firstS at h
    split at h
    · rename_i hf
      by_cases e : s = i
      · rw [e]; exact hf
      · exact firstS_all d (i + 1) h s (by omega) (by omega)
    · simp at h

theorem lead_at_least {p : Nat → Bool} : ∀ d q k, (∀ j, q < j → j ≤ k → p j = true) → q ≤ k → k ≤ q + d → k ≤ lead p q d
  | 0, q, k, _, h1, h2 => by unfold lead; omega
  | d + 1, q, k, h, h1, h2 => by
    unfold lead
    by_cases e : k = q
    · split
      · have := lead_ge p d (q + 1); omega
      · omega
    · rw [if_pos (h (q + 1) (by omega) (by omega))]
      exact lead_at_least d (q + 1) k (fun j h3 h4 => h j (by omega) h4) (by omega) (by omega)

theorem fit_ge {l : List Com} {c d : List Int} (vc : valid c = true) (vd : valid d = true) (hd : closed l d = true) (h : le d c) {s : Nat} (hs : s < 6) : d.getD s 0 ≤ ((fit l c s : Nat) : Int) := by
  have h1 := h s
  have h2 := (valid_iff.1 vd).2 s
  have h3 := (valid_iff.1 vc).2 s
  have := lead_at_least (p := okq l c s) (c.getD s 0).toNat 0 (d.getD s 0).toNat (fun j g1 g2 => okq_mono vd vc h ((closed_all vd).1 hd s hs j g1 (by omega))) (by omega) (by omega)
  unfold fit
  omega

theorem full_fit {l : List Com} {c : List Int} {s : Nat} (h : full l c s = false) : ((fit l c s : Nat) : Int) < c.getD s 0 := by
  unfold full at h
  simpa using h

theorem reachF_step {l : List Com} {c : List Int} (vc : valid c = true) {s : Nat} (hs : s < 6) (hf : full l c s = false) : valid (c.set s (fit l c s : Nat)) = true ∧ total (c.set s (fit l c s : Nat)) < total c ∧ le (c.set s (fit l c s : Nat)) c := by
  have h6 := valid_len vc
  have hlt := full_fit hf
  have h3 := total_set (o := c) (i := s) (v := fit l c s) (by omega)
  refine ⟨valid_set vc (by omega) (fit_small vc hs), by omega, fun t => ?_⟩
  rw [getD_set (by omega)]
  split
  · rename_i e; rw [e]; omega
  · omega

theorem reachF_closed {l : List Com} : ∀ n (c : List Int), valid c = true → total c < n → closed l (reachF l n c) = true ∧ le (reachF l n c) c
  | 0, c, _, h => by omega
  | n + 1, c, hv, hn => by
    unfold reachF
    split
    · rename_i h
      have := firstS_all 6 0 h
      refine ⟨?_, fun _ => Int.le_refl _⟩
      unfold closed
      rw [hv, Bool.true_and, List.all_eq_true]
      intro s hs
      exact this s (Nat.zero_le _) (by simpa using hs)
    · rename_i s h
      obtain ⟨_, h2, h3⟩ := firstS_some 6 0 h
      obtain ⟨v', t', l'⟩ := reachF_step hv (by omega) h3
      obtain ⟨g1, g2⟩ := reachF_closed n _ v' (by omega)
      exact ⟨g1, fun t => Int.le_trans (g2 t) (l' t)⟩

theorem reachF_great {l : List Com} {d : List Int} (vd : valid d = true) (hd : closed l d = true) : ∀ n (c : List Int), valid c = true → le d c → le d (reachF l n c)
  | 0, c, _, h => h
  | n + 1, c, hv, h => by
    unfold reachF
    split
    · exact h
    · rename_i s hs
      obtain ⟨_, h2, h3⟩ := firstS_some 6 0 hs
      obtain ⟨v', _, _⟩ := reachF_step hv (show s < 6 by omega) h3
      refine reachF_great vd hd n _ v' fun t => ?_
      rw [getD_set (by rw [valid_len hv]; omega)]
      split
      · rename_i e; rw [e]; exact fit_ge hv vd hd h (by omega)
      · exact h t

/-- the greatest closed cut within a limit -/
structure Gre (l : List Com) (c g : List Int) : Prop where
  v : valid g = true
  cl : closed l g = true
  lo : le g c
  gr : ∀ d, valid d = true → closed l d = true → le d c → le d g
theorem reachF_gre {l : List Com} {c : List Int} (hv : valid c = true) : Gre l c (reachF l 6000 c) :=
  ⟨reachF_valid _ _ hv, (reachF_closed _ _ hv (total_le hv)).1, (reachF_closed _ _ hv (total_le hv)).2, fun d vd hd h => reachF_great vd hd _ _ hv h⟩

/-! ### Lists with the same commits -/
theorem okq_congr {l l' : List Com} (h : ∀ n, l'.find? (isN n) = l.find? (isN n)) (c : List Int) (s q : Nat) : okq l' c s q = okq l c s q := by unfold okq; rw [h]
theorem lead_congr {p q : Nat → Bool} (h : ∀ j, p j = q j) : ∀ d k, lead p k d = lead q k d
  | 0, _ => rfl
  | d + 1, k => by unfold lead; rw [h, lead_congr h d]
theorem fit_congr {l l' : List Com} (h : ∀ n, l'.find? (isN n) = l.find? (isN n)) (c : List Int) (s : Nat) : fit l' c s = fit l c s := lead_congr (fun j => okq_congr h c s j) _ _
theorem full_congr {l l' : List Com} (h : ∀ n, l'.find? (isN n) = l.find? (isN n)) (c : List Int) (s : Nat) : full l' c s = full l c s := by unfold full; rw [fit_congr h]
theorem firstS_congr {l l' : List Com} (h : ∀ n, l'.find? (isN n) = l.find? (isN n)) (c : List Int) : ∀ d i, firstS l' c i d = firstS l c i d
  | 0, _ => rfl
  | d + 1, i => by unfold firstS; rw [full_congr h, firstS_congr h c d]
theorem reachF_congr {l l' : List Com} (h : ∀ n, l'.find? (isN n) = l.find? (isN n)) : ∀ n (c : List Int), reachF l' n c = reachF l n c
  | 0, _ => rfl
  | n + 1, c => by
    unfold reachF
    rw [firstS_congr h]
    split
    · rfl
    · rw [fit_congr h, reachF_congr h n]
theorem closed_congr {l l' : List Com} (h : ∀ n, l'.find? (isN n) = l.find? (isN n)) (c : List Int) : closed l' c = closed l c := by
  unfold closed
  congr 2
  funext s
  exact full_congr h c s
theorem find_same {l l' : List Com} (hl : LGood l) (h : ∀ c, c ∈ l' ↔ c ∈ l) (n : Nam) : l'.find? (isN n) = l.find? (isN n) := by
  cases h1 : l'.find? (isN n) with
  | none =>
    rw [List.find?_eq_none] at h1
    exact (List.find?_eq_none.2 fun c hc => h1 c ((h c).2 hc)).symm
  | some x =>
    have hx := List.find?_some h1
    have hm := (h x).1 (List.mem_of_find?_eq_some h1)
    cases h2 : l.find? (isN n) with
    | none => rw [List.find?_eq_none] at h2; exact absurd hx (h2 x hm)
    | some y =>
      have hy := List.find?_some h2
      rw [isN_iff] at hx hy
      rw [nd_eq hl.nd hm (List.mem_of_find?_eq_some h2) (hx.1.trans hy.1.symm) (hx.2.trans hy.2.symm)]
theorem find_take {l : List Com} {k : Nat} {n : Nam} {x : Com} (h : (l.take k).find? (isN n) = some x) : l.find? (isN n) = some x := by
  rw [← List.take_append_drop k l, List.find?_append, h]; rfl
theorem closed_take {l : List Com} {k : Nat} {c : List Int} (hv : valid c = true) (h : closed (l.take k) c = true) : closed l c = true := by
  rw [closed_all hv] at h ⊢
  intro s hs j h1 h2
  have := h s hs j h1 h2
  unfold okq at this ⊢
  split at this
  · rename_i x hx
    rw [find_take hx]; exact this
  · simp at this

/-! ### Shuffled lists -/
def shuf (b : List Nat) : Nat → List Com → List Com → List Com
  | _, [], out => out
  | i, x :: xs, out => shuf b (i + 1) xs (out.take (b.getD i 0 % (i + 1)) ++ x :: out.drop (b.getD i 0 % (i + 1)))
def shuffled (l : List Com) (b : List Nat) : List Com := shuf b 0 l [] ++ (shuf b 0 l []).take ((shuf b 0 l []).length / 3)
theorem shuf_mem {b : List Nat} {c : Com} : ∀ (xs : List Com) (i : Nat) (out : List Com), c ∈ shuf b i xs out ↔ c ∈ xs ∨ c ∈ out
  | [], i, out => by simp [shuf]
  | x :: xs, i, out => by
    rw [shuf, shuf_mem xs]
    have : c ∈ out ↔ c ∈ out.take (b.getD i 0 % (i + 1)) ∨ c ∈ out.drop (b.getD i 0 % (i + 1)) := by rw [← List.mem_append, List.take_append_drop]
    rw [this]
    simp only [List.mem_append, List.mem_cons]
    constructor
    · rintro (h | h | h | h)
      · exact .inl (.inr h)
      · exact .inr (.inl h)
      · exact .inl (.inl h)
      · exact .inr (.inr h)
    · rintro ((h | h) | h | h)
      · exact .inr (.inr (.inl h))
      · exact .inl h
      · exact .inr (.inl h)
      · exact .inr (.inr (.inr h))
theorem shuf_len {b : List Nat} : ∀ (xs : List Com) (i : Nat) (out : List Com), (shuf b i xs out).length = xs.length + out.length
  | [], i, out => by simp [shuf]
  | x :: xs, i, out => by
    rw [shuf, shuf_len xs]
    have : (out.take (b.getD i 0 % (i + 1))).length + (out.drop (b.getD i 0 % (i + 1))).length = out.length := by rw [← List.length_append, List.take_append_drop]
    simp only [List.length_append, List.length_cons]
    omega
theorem shuffled_mem {l : List Com} {b : List Nat} (c : Com) : c ∈ shuffled l b ↔ c ∈ l := by
  unfold shuffled
  rw [List.mem_append]
  have h := shuf_mem (b := b) (c := c) l 0 []
  constructor
  · rintro (h1 | h1)
    · simpa using h.1 h1
    · simpa using h.1 (List.mem_of_mem_take h1)
  · intro h1; exact .inl (h.2 (.inl h1))

/-! ### The number of commits -/
def diag (K : List (List Int)) (a : Nat) : Int := (K.getD a []).getD a 0
theorem HGood.dom {x : HS} (h : HGood x) : ∀ R ∈ x.K, ∀ a : Nat, a < 3 → R.getD a 0 ≤ diag x.K a := by
  intro R hR a ha
  unfold diag
  rcases Int.lt_or_le (R.getD a 0) 1 with h1 | h1
  · obtain ⟨k4, g4, r4⟩ := h.inv.get ha
    have : 0 ≤ (x.K.getD a []).getD a 0 := by
      rw [g4]; exact (r4.2 _ (getD_mem (by omega))).1
    omega
  · obtain ⟨c, hc, e1, e2, _⟩ := h.clo R hR a _ h1 (Int.le_refl _)
    have := h.top c hc
    rw [e1, e2] at this
    simpa using this

theorem diag_join {x : HS} (h : HGood x) {s t u : Nat} (hs : s < 3) (ht : t < 3) {a : Nat} (ha : a < 3) : diag (hjoin x.K s t u) a = diag x.K a := by
  unfold hjoin
  split
  · obtain ⟨k1, g1, r1⟩ := h.inv.get hs
    obtain ⟨k2, g2, r2⟩ := h.inv.get ht
    unfold diag
    rw [getD_setL k1]
    split
    · rename_i e
      subst e
      rw [g1, g2, getD_maxL (by rw [r1.1, r2.1])]
      have := h.dom _ (List.getElem_mem k2) a ha
      unfold diag at this
      rw [g1] at this
      rw [if_neg (by omega)]
    · rfl
  · rfl

theorem diag_next {x : HS} (h : HGood x) {s t u : Nat} (hs : s < 3) (ht : t < 3) {a : Nat} (ha : a < 3) : diag (hnext x s t u).K a = if a = s then diag x.K a + 1 else diag x.K a := by
  have hI := h.inv.join (u := u) hs ht
  obtain ⟨k3, g3, r3⟩ := hI.get hs
  have hd := diag_join h (u := u) hs ht ha
  unfold hnext
  show diag ((hjoin x.K s t u).set s (own (hcom (hjoin x.K s t u) s))) a = _
  rw [← hd]
  unfold diag
  rw [getD_setL k3]
  by_cases e : a = s
  · rw [if_pos e, if_pos e]
    subst e
    show (((hjoin x.K a t u).getD a []).set ((a : Int).toNat) _).getD a 0 = _
    rw [Int.toNat_natCast, getD_set (by rw [g3]; omega), if_pos rfl]
    rfl
  · rw [if_neg e, if_neg e]

def Cnt (x : HS) : Prop := diag x.K 0 + diag x.K 1 + diag x.K 2 = (x.out.length : Int)
theorem cnt_next {x : HS} (h : HGood x) (hc : Cnt x) {s t u : Nat} (hs : s < 3) (ht : t < 3) : Cnt (hnext x s t u) := by
  unfold Cnt at hc ⊢
  rw [diag_next h hs ht (by omega), diag_next h hs ht (by omega), diag_next h hs ht (by omega)]
  have : (hnext x s t u).out.length = x.out.length + 1 := by simp [hnext]
  rw [this]
  match s, hs with
  | 0, _ => simp; omega
  | 1, _ => simp; omega
  | 2, _ => simp; omega

theorem cnt_fold : ∀ (b : List Nat) (x : HS), HGood x → Cnt x → x.out.length + b.length ≤ 12 → Cnt (b.foldl hstep x) ∧ HGood (b.foldl hstep x)
  | [], x, h, hc, _ => ⟨hc, h⟩
  | n :: b, x, h, hc, hl => by
    rw [List.foldl_cons]
    have h1 : n % 3 < 3 := Nat.mod_lt _ (by omega)
    have h2 : n / 3 % 3 < 3 := Nat.mod_lt _ (by omega)
    have hg := h.next (u := n / 9 % 3) (by simp only [List.length_cons] at hl; omega) h1 h2
    exact cnt_fold b _ hg (cnt_next h hc h1 h2) (by show (hnext x _ _ _).out.length + _ ≤ _; simp only [hnext, List.length_append, List.length_cons, List.length_nil] at hl ⊢; omega)

end Go.Abs
/- The walk of Shuffled; the greatest closed cut of all commits. -/
set_option linter.unusedSimpArgs false
set_option linter.unusedVariables false
set_option maxRecDepth 100000
set_option maxHeartbeats 4000000
namespace Go.Abs
open Go

theorem set6 {x y z : AObj} {ρ : Sto} : (ρ ++ [x] ++ [y]).set ρ.length z = ρ ++ [z] ++ [y] := by simp

/-- the insertion of a commit -/
theorem r20_Shuffled_c3 {f : SlF} {b : List Nat} {l : List Com} {g : SlF} {out : List Com} {i kk o : Nat} {σ : Sto} {Q : Post3} {K : List Item} (hi : i < l.length) (ho : out.length = i) (hk : kk ≤ i) (h100 : l.length ≤ 100) (hσ : σ[o]? = some (.cells false (out.flatMap cellsC)))
    (next : ∀ (o' : Nat) (σ' : Sto), σ'[o']? = some (.cells false ((out.take kk ++ l[i] :: out.drop kk).flatMap cellsC)) → Run T Q K (mkE 49 [(0, coms f l), (1, bytesV g b), (5, .ref o' ((i + 1) * 5) 0 (i + 1) 5), (6, .int .i64 i)]) σ') :
    Run T Q (.code r20_Shuffled.c3 :: K) (mkE 49 [(0, coms f l), (1, bytesV g b), (5, .ref o (i * 5) 0 i 5), (6, .int .i64 i), (7, .int .i64 kk)]) σ := by
  have one5 : ∀ y : Com, (cellsC y).all AVal.one = true := fun y => by simp (maxSteps := 2000000) only [go_sem, ↓reduceIte, Nat.reduceLT, Nat.reduceEqDiff, Nat.reduceLeDiff, Nat.reduceAdd, Nat.reduceSub, Nat.reduceMul, Int.reduceLT, Int.reduceLE, Int.reduceEq, Int.reduceNeg, List.all_cons, List.all_nil, Bool.and_true]
  rw [run_unfold r20_Shuffled.c3.eq_1]
  have hlt : o < σ.length := (List.getElem?_eq_some_iff.1 hσ).1
  have hσ1 : (σ ++ [AObj.cells false []])[o]? = some (.cells false (out.flatMap cellsC)) := by rw [List.getElem?_append_left hlt]; exact hσ
  obtain ⟨v1, a1, a2, a3, a4, a5⟩ := slice_live (k := 5) (lo := none) (hi := some (.int .i64 (kk : Int))) (l := 0) (h := kk) (by decide) cellsC_len hσ1 rfl (by simp only [bnd, natOf_nat]) (by omega) (by omega)
  rw [ho] at a1
  simp (maxSteps := 2000000) only [go_sem, ↓reduceIte, Nat.reduceLT, Nat.reduceEqDiff, Nat.reduceLeDiff, Nat.reduceAdd, Nat.reduceSub, Nat.reduceMul, Int.reduceLT, Int.reduceLE, Int.reduceEq, Int.reduceNeg, a1]
  have r1 : rowOf (σ ++ [AObj.cells false []]) v1 = some (kk, (out.take kk).flatMap cellsC) := by simpa using a2 rfl
  have l1 : (out.take kk).length = kk := by rw [List.length_take]; omega
  refine after_of (appendV_grow (o := σ.length) (len := 0) (gen := 0) (m := kk) (bytes := 72) (cs := []) (nl := false) (by simp) r1 rfl (by simp) (by rw [flatMap_len cellsC_len, l1]) (by decide) (all_one_flat one5 _) (by unfold maxBytes; omega)) ?_
  simp (maxSteps := 2000000) only [go_sem, ↓reduceIte, Nat.reduceLT, Nat.reduceEqDiff, Nat.reduceLeDiff, Nat.reduceAdd, Nat.reduceSub, Nat.reduceMul, Int.reduceLT, Int.reduceLE, Int.reduceEq, Int.reduceNeg, hi, set_last, List.nil_append]
  have p2 := appendV_struct (k := 5) (bytes := 72) (X := out.take kk) (y := l[i]) (g := cellsC) (σ := σ ++ [.cells false ((out.take kk).flatMap cellsC)] ++ [.cells false (cellsC l[i])]) (o := σ.length) (o' := (σ ++ [AObj.cells false ((out.take kk).flatMap cellsC)]).length)
    (by decide) cellsC_len one5 (by simp) (by simp) (by unfold maxBytes; omega)
  rw [l1] at p2
  refine after_of p2 ?_
  have l2 : (out.take kk ++ [l[i]]).length = kk + 1 := by rw [List.length_append, l1]; rfl
  rw [set6, l2]
  have hσ2 : (σ ++ [AObj.cells false ((out.take kk ++ [l[i]]).flatMap cellsC)] ++ [AObj.cells false (cellsC l[i])])[o]? = some (.cells false (out.flatMap cellsC)) := by
    rw [List.append_assoc, List.getElem?_append_left hlt]; exact hσ
  obtain ⟨v2, b1, b2, b3, b4, b5⟩ := slice_live (k := 5) (lo := some (.int .i64 (kk : Int))) (hi := none) (l := kk) (h := out.length) (by decide) cellsC_len hσ2 (by simp only [bnd, natOf_nat]) rfl (by omega) (by omega)
  rw [ho] at b1
  simp (maxSteps := 2000000) only [go_sem, ↓reduceIte, Nat.reduceLT, Nat.reduceEqDiff, Nat.reduceLeDiff, Nat.reduceAdd, Nat.reduceSub, Nat.reduceMul, Int.reduceLT, Int.reduceLE, Int.reduceEq, Int.reduceNeg, b1]
  have r2 : rowOf (σ ++ [AObj.cells false ((out.take kk ++ [l[i]]).flatMap cellsC)] ++ [AObj.cells false (cellsC l[i])]) v2 = some (i - kk, (out.drop kk).flatMap cellsC) := by
    rw [b2 rfl, List.take_length, ho]
  have l3 : (out.drop kk).length = i - kk := by rw [List.length_drop, ho]
  refine after_of (appendV_grow (o := σ.length) (len := kk + 1) (gen := (kk + 1) * 5) (m := i - kk) (bytes := 72) (cs := (out.take kk ++ [l[i]]).flatMap cellsC) (nl := false) (by simp) r2 (by rw [flatMap_len cellsC_len, l2]) rfl (by rw [flatMap_len cellsC_len, l3]) (by decide) (all_one_flat one5 _) (by unfold maxBytes; omega)) ?_
  rw [set6]
  have e2 : (out.take kk ++ [l[i]]).flatMap cellsC ++ (out.drop kk).flatMap cellsC = (out.take kk ++ l[i] :: out.drop kk).flatMap cellsC := by rw [← List.flatMap_append, List.append_assoc]; rfl
  rw [e2, show (kk + 1) * 5 + (i - kk) * 5 = (i + 1) * 5 by omega, show kk + 1 + (i - kk) = i + 1 by omega]
  have n1 : σ.length ≠ o := by omega
  simp (maxSteps := 2000000) only [go_sem, ↓reduceIte, Nat.reduceLT, Nat.reduceEqDiff, Nat.reduceLeDiff, Nat.reduceAdd, Nat.reduceSub, Nat.reduceMul, Int.reduceLT, Int.reduceLE, Int.reduceEq, Int.reduceNeg, List.all_cons, List.all_nil, Bool.and_true, a3, a4, a5, b3, b4, b5, n1, decide_true, Bool.not_false]
  refine ⟨by simp, ?_⟩
  have g1 : ∀ (x y : AObj), (σ ++ [x] ++ [y])[σ.length]? = some x := fun x y => by simp
  exact next σ.length (σ ++ [AObj.cells false ((out.take kk ++ l[i] :: out.drop kk).flatMap cellsC)] ++ [AObj.cells false (cellsC l[i])]) (g1 _ _)

theorem r20_Shuffled_loop {f g : SlF} {l : List Com} {b : List Nat} (hl : Fits l) (h100 : l.length ≤ 100) (hb : Fits b) (hb8 : ∀ n ∈ b, n < 256) : ∀ i, i ≤ l.length → ∀ out : List Com, out.length = i → ∀ (o : Nat) (σ : Sto), σ[o]? = some (.cells false (out.flatMap cellsC)) →
    Run T (Res [.tmp 4] (coms .lst (shuf b i (l.drop i) out ++ (shuf b i (l.drop i) out).take ((shuf b i (l.drop i) out).length / 3)))) (.inLoop r20_Shuffled.b0 :: r20_Shuffled.k0) (mkE 49 [(0, coms f l), (1, bytesV g b), (5, .ref o (i * 5) 0 i 5), (6, .int .i64 i)]) σ := by
  have one5 : ∀ y : Com, (cellsC y).all AVal.one = true := fun y => by simp (maxSteps := 2000000) only [go_sem, ↓reduceIte, Nat.reduceLT, Nat.reduceEqDiff, Nat.reduceLeDiff, Nat.reduceAdd, Nat.reduceSub, Nat.reduceMul, Int.reduceLT, Int.reduceLE, Int.reduceEq, Int.reduceNeg, List.all_cons, List.all_nil, Bool.and_true]
  refine up_ind ?_ fun i hi ih => ?_
  · intro out ho o σ hσ
    rw [run_round, run_unfold r20_Shuffled.b0.eq_1]
    rw [List.drop_length, shuf]
    have hq : IntKind.i64.wrap (Int.tdiv (l.length : Int) 3) = ((l.length / 3 : Nat) : Int) := wrap_i64 (by have : Int.tdiv (l.length : Int) 3 = ((l.length / 3 : Nat) : Int) := rfl; omega) (by have : Int.tdiv (l.length : Int) 3 = ((l.length / 3 : Nat) : Int) := rfl; omega)
    have hlen := flatMap_len cellsC_len out
    obtain ⟨v1, a1, a2, a3, a4, a5⟩ := slice_live (k := 5) (lo := none) (hi := some (.int .i64 ((l.length / 3 : Nat) : Int))) (l := 0) (h := l.length / 3) (by decide) cellsC_len hσ rfl (by simp only [bnd, natOf_nat]) (by omega) (by omega)
    rw [ho] at a1
    simp (maxSteps := 2000000) only [go_sem, ↓reduceIte, Nat.reduceLT, Nat.reduceEqDiff, Nat.reduceLeDiff, Nat.reduceAdd, Nat.reduceSub, Nat.reduceMul, Int.reduceLT, Int.reduceLE, Int.reduceEq, Int.reduceNeg, Nat.lt_irrefl, run_unfold r20_Shuffled.c0.eq_1, run_unfold r20_Shuffled.c1.eq_1, run_unfold r20_Shuffled.c2.eq_1, run_unfold r20_Shuffled.c3.eq_1, r20_Shuffled.k0, hσ, hlen, ho, hq, a1]
    have r1 : rowOf σ v1 = some (l.length / 3, (out.take (l.length / 3)).flatMap cellsC) := by simpa using a2 rfl
    refine after_of (appendV_grow (o := o) (len := l.length) (gen := l.length * 5) (m := l.length / 3) (bytes := 72) (cs := out.flatMap cellsC) (nl := false) hσ r1 (by rw [hlen, ho]) rfl (by rw [flatMap_len cellsC_len, List.length_take]; congr 1; omega) (by decide) (all_one_flat one5 _) (by unfold maxBytes; omega)) ?_
    simp (maxSteps := 2000000) only [go_sem, ↓reduceIte, Nat.reduceLT, Nat.reduceEqDiff, Nat.reduceLeDiff, Nat.reduceAdd, Nat.reduceSub, Nat.reduceMul, Int.reduceLT, Int.reduceLE, Int.reduceEq, Int.reduceNeg]
    have e1 : l.length * 5 + l.length / 3 * 5 = (out ++ out.take (l.length / 3)).length * 5 := by simp; omega
    have e2 : l.length + l.length / 3 = (out ++ out.take (l.length / 3)).length := by simp; omega
    rw [e1, e2, snap_coms (n := 62) (l := out ++ out.take (l.length / 3)) (by rw [List.flatMap_append, List.getElem?_set_self (List.getElem?_eq_some_iff.1 hσ).1])]
  · intro out ho o σ hσ
    rw [run_round, run_unfold r20_Shuffled.b0.eq_1]
    rw [List.drop_eq_getElem_cons hi, shuf]
    have hw := wrap_succ (show i < 9223372036854775807 by omega)
    have step : ∀ kk, kk = b.getD i 0 % (i + 1) → Run T (Res [.tmp 4] (coms .lst (shuf b (i + 1) (l.drop (i + 1)) (out.take (b.getD i 0 % (i + 1)) ++ l[i] :: out.drop (b.getD i 0 % (i + 1))) ++ (shuf b (i + 1) (l.drop (i + 1)) (out.take (b.getD i 0 % (i + 1)) ++ l[i] :: out.drop (b.getD i 0 % (i + 1)))).take ((shuf b (i + 1) (l.drop (i + 1)) (out.take (b.getD i 0 % (i + 1)) ++ l[i] :: out.drop (b.getD i 0 % (i + 1)))).length / 3))))
        (.code r20_Shuffled.c3 :: .inBlock 1 :: .code r20_Shuffled.c2 :: .inLoop r20_Shuffled.b0 :: r20_Shuffled.k0) (mkE 49 [(0, coms f l), (1, bytesV g b), (5, .ref o (i * 5) 0 i 5), (6, .int .i64 i), (7, .int .i64 kk)]) σ := fun kk hk => by
      subst hk
      have hlt := Nat.mod_lt (b.getD i 0) (show 0 < i + 1 by omega)
      refine r20_Shuffled_c3 hi ho (by omega) h100 hσ fun o' σ' hσ' => ?_
      simp (maxSteps := 2000000) only [go_sem, ↓reduceIte, Nat.reduceLT, Nat.reduceEqDiff, Nat.reduceLeDiff, Nat.reduceAdd, Nat.reduceSub, Nat.reduceMul, Int.reduceLT, Int.reduceLE, Int.reduceEq, Int.reduceNeg, run_unfold r20_Shuffled.c0.eq_1, run_unfold r20_Shuffled.c1.eq_1, run_unfold r20_Shuffled.c2.eq_1, run_unfold r20_Shuffled.c3.eq_1, r20_Shuffled.k0, hw]
      exact ih _ (by simp; omega) o' σ' hσ'
    by_cases hib : i < b.length
    · have hn := hb8 b[i] (List.getElem_mem hib)
      have e1 := wrap_nat (show b[i] < 9223372036854775808 by omega)
      have e2 : Int.tmod (b[i] : Int) ((i + 1 : Nat) : Int) = ((b[i] % (i + 1) : Nat) : Int) := rfl
      have e3 : ¬ (((i + 1 : Nat) : Int) = 0) := by omega
      simp (maxSteps := 2000000) only [go_sem, ↓reduceIte, Nat.reduceLT, Nat.reduceEqDiff, Nat.reduceLeDiff, Nat.reduceAdd, Nat.reduceSub, Nat.reduceMul, Int.reduceLT, Int.reduceLE, Int.reduceEq, Int.reduceNeg, hi, hib, hw, e1, e2, e3]
      exact step _ (by rw [List.getD_eq_getElem?_getD, List.getElem?_eq_getElem hib]; rfl)
    · simp (maxSteps := 2000000) only [go_sem, ↓reduceIte, Nat.reduceLT, Nat.reduceEqDiff, Nat.reduceLeDiff, Nat.reduceAdd, Nat.reduceSub, Nat.reduceMul, Int.reduceLT, Int.reduceLE, Int.reduceEq, Int.reduceNeg, hi, hib]
      exact step 0 (by rw [List.getD_eq_getElem?_getD, List.getElem?_eq_none (by omega)]; simp)

theorem r20_Shuffled_spec {f g : SlF} {l : List Com} {b : List Nat} (hl : Fits l) (h100 : l.length ≤ 100) (hb : Fits b) (hb8 : ∀ n ∈ b, n < 256) {lv : List Nat} {σ : Sto} {R : Post} : Cw T true i_r20_Shuffled [coms f l, bytesV g b] lv σ R ↔ R (coms .lst (shuffled l b)) σ := by
  refine cw_intro T_r20_Shuffled (by simp only [go_sem]) (by simp) ?_; rw [run_unfold r20_Shuffled.main.eq_1]
  simp (maxSteps := 2000000) only [go_sem, ↓reduceIte, Nat.reduceLT, Nat.reduceEqDiff, Nat.reduceLeDiff, Nat.reduceAdd, Nat.reduceSub, Nat.reduceMul, Int.reduceLT, Int.reduceLE, Int.reduceEq, Int.reduceNeg]
  exact r20_Shuffled_loop (f := f) (g := g) hl h100 hb hb8 0 (by omega) [] rfl 0 _ rfl
@[go_sem] theorem r20_Shuffled_call {f g : SlF} {l : List Com} {b : List Nat} (hl : Fits l) (h100 : l.length ≤ 100) (hb : Fits b) (hb8 : ∀ n ∈ b, n < 256) {Q : Post3} {k : List Item} {os : List AOper} {d : Option Nat} {e : Env} {σ : Sto} : CallK T Q k os d e σ true i_r20_Shuffled [coms f l, bytesV g b] ↔ Run T Q (.ops os :: k) (put e d (coms .lst (shuffled l b))) σ := r20_Shuffled_spec hl h100 hb hb8


end Go.Abs
