/- Parts of the proof: C36A, C36B. -/
import Derived.Test.YtdiekiajedmaeaaC36F
import Derived.Test.YtdiekiajedmaeaaAbsVal
import Derived.Test.YtdiekiajedmaeaaJAbsLaw
import Derived.KernelRfl
set_option linter.all false
/- Walks of chapter 36: pieces, which are valid, what reading costs. -/
set_option linter.unusedSimpArgs false
set_option linter.unusedVariables false
set_option maxRecDepth 100000
set_option maxHeartbeats 4000000
namespace Go.Abs
open Go
attribute [local go_sem_proc] Nat.reduceLT Nat.reduceEqDiff Nat.reduceLeDiff Nat.reduceAdd Nat.reduceSub Nat.reduceMul Int.reduceLT Int.reduceLE Int.reduceEq Int.reduceNeg
attribute [local go_sem_proc ↓] reduceIte

attribute [go_sem] chunk List.headD_cons
abbrev Fits {α : Type} (l : List α) : Prop := l.length < 9223372036854775807
structure Pc where
 n : Int
 b : Int
 deriving DecidableEq
abbrev pcA (f : SlF) (l : List Pc) : AVal := sv 2 f (l.map fun p => .agg [.int .i64 p.n, .int .i64 p.b])
abbrev pcO (l : List Pc) : AObj := .cells false (l.flatMap fun p => [.int .i64 p.n, .int .i64 p.b])
abbrev pcR (o : Nat) (l : List Pc) : AVal := .ref o (l.length * 2) 0 l.length 2
theorem pc_chunk {l : List Pc} : AVal.list 2 (chunk 2 l.length (l.flatMap fun p => [.int .i64 p.n, .int .i64 p.b])) = pcA .lst l := by
 rw [chunk_flatMap (k := 2) (by decide) (fun _ => rfl), pcA, sv_lst]
theorem snap_pc {n o : Nat} {σ : Sto} {l : List Pc} (hσ : σ[o]? = some (pcO l)) : snapA σ (n + 2) (pcR o l) = some (pcA .lst l) := by
 rw [snapA_refN hσ (flatMap_len (k := 2) (fun _ => rfl) l) rfl (by decide) (v_names_flat (fun _ => rfl) l), pc_chunk]
theorem app_pc {o o' : Nat} {σ : Sto} {X : List Pc} {y : Pc} (hσ : σ[o]? = some (pcO X)) (hσ' : σ[o']? = some (.cells false [.int .i64 y.n, .int .i64 y.b])) (hb : X.length ≤ 1000000) :
  appendV 2 16 (pcR o X) (.ref o' 2 0 1 2) σ = some (pcR o (X ++ [y]), σ.set o (pcO (X ++ [y]))) :=
 appendV_struct (g := fun p : Pc => [.int .i64 p.n, .int .i64 p.b]) (by decide) (fun _ => rfl) (fun _ => rfl) hσ hσ' (by simp only [maxBytes]; omega)

def okP (p : Pc) : Bool := decide (1 ≤ p.n ∧ p.n ≤ 5994 ∧ 0 ≤ p.b ∧ p.b ≤ 1000000000)
def validB (l : List Pc) : Bool := decide (l.length ≤ 512) && l.all okP
theorem Xq42_spec {p : Pc} {lv : List Nat} {σ : Sto} {R : Post} : Cw T true i_Xq42 [.agg [.int .i64 p.n, .int .i64 p.b]] lv σ R ↔ R (.bool (!okP p)) σ := by
 refine cw_intro T_Xq42 (by simp only [go_sem]) (by simp) ?_; rw [run_unfold Xq42.main.eq_1]
 unfold okP
 by_cases h1 : p.n < 1
 ·have e : ¬ (1 ≤ p.n ∧ p.n ≤ 5994 ∧ 0 ≤ p.b ∧ p.b ≤ 1000000000) := by omega
  simp (maxSteps := 2000000) only [go_sem, h1, decide_eq_false e, Bool.not_false]
 ·by_cases h2 : 5994 < p.n
  ·have e : ¬ (1 ≤ p.n ∧ p.n ≤ 5994 ∧ 0 ≤ p.b ∧ p.b ≤ 1000000000) := by omega
   simp (maxSteps := 2000000) only [go_sem, h1, h2, decide_eq_false e, Bool.not_false]
  ·by_cases h3 : p.b < 0
   ·have e : ¬ (1 ≤ p.n ∧ p.n ≤ 5994 ∧ 0 ≤ p.b ∧ p.b ≤ 1000000000) := by omega
    simp (maxSteps := 2000000) only [go_sem, h1, h2, h3, decide_eq_false e, Bool.not_false]
   ·by_cases h4 : 1000000000 < p.b
    ·have e : ¬ (1 ≤ p.n ∧ p.n ≤ 5994 ∧ 0 ≤ p.b ∧ p.b ≤ 1000000000) := by omega
     simp (maxSteps := 2000000) only [go_sem, h1, h2, h3, h4, decide_eq_false e, Bool.not_false]
    ·have e : (1 ≤ p.n ∧ p.n ≤ 5994 ∧ 0 ≤ p.b ∧ p.b ≤ 1000000000) := by omega
     simp (maxSteps := 2000000) only [go_sem, h1, h2, h3, h4, decide_eq_true e, Bool.not_true]
@[go_sem] theorem Xq42_call {p : Pc} {Q : Post3} {k : List Item} {os : List AOper} {d : Option Nat} {e : Env} {σ : Sto} : CallK T Q k os d e σ true i_Xq42 [.agg [.int .i64 p.n, .int .i64 p.b]] ↔ Run T Q (.ops os :: k) (put e d (.bool (!okP p))) σ := Xq42_spec

abbrev oddC : AVal := .clo (.func i_Xq42) [] []
def ixB : List Pc → Nat → Int
 | [], _ => -1
 | p :: l, i => if okP p = true then ixB l (i + 1) else (i : Int)
theorem ixB_neg : ∀ (l : List Pc) (i : Nat), (0 ≤ ixB l i) ↔ l.all okP = false
 | [], i => by simp [ixB]
 | p :: l, i => by
  unfold ixB
  cases h : okP p
  ·simp [h]
  ·simp only [if_true, List.all_cons, h, Bool.true_and]; exact ixB_neg l (i + 1)
theorem ixP_loop {f : SlF} {l : List Pc} (hl : Fits l) : ∀ i, i ≤ l.length →
  Run T (Res [.tmp 4] (.int .i64 (ixB (l.drop i) i))) (.inLoop Xq16.b0 :: Xq16.k0) (mkE 19 [(0, pcA f l), (1, oddC), (7, .int .i64 l.length), (8, .int .i64 i)]) [] := by
 refine up_ind ?_ fun i hi ih => ?_
 ·rw [run_round, run_unfold Xq16.b0.eq_1]
  simp (maxSteps := 2000000) only [go_sem, run_unfold Xq16.c0.eq_1, run_unfold Xq16.c1.eq_1, Xq16.k0, Int.lt_irrefl, List.drop_length, ixB]
 ·have w1 := wrap_succ (show i < 9223372036854775807 by have : l.length < _ := hl; omega)
  rw [List.drop_eq_getElem_cons hi, ixB]
  rw [run_round, run_unfold Xq16.b0.eq_1]
  have hc := @Xq42_call l[i]
  cases h : okP l[i]
  ·simp (maxSteps := 2000000) only [go_sem, hi, hc, h, Bool.not_false]
   done
  ·simp (maxSteps := 2000000) only [go_sem, hi, hc, h, Bool.not_true, w1, run_unfold Xq16.c0.eq_1, run_unfold Xq16.c1.eq_1, Xq16.k0]
   exact ih
theorem Xq16_spec {f : SlF} {l : List Pc} (hl : Fits l) {lv : List Nat} {σ : Sto} {R : Post} : Cw T true i_Xq16 [pcA f l, oddC] lv σ R ↔ R (.int .i64 (ixB l 0)) σ := by
 refine cw_intro T_Xq16 (by simp only [go_sem]) (by simp) ?_; rw [run_unfold Xq16.main.eq_1]
 have h := ixP_loop (f := f) hl 0 (by omega)
 simp only [List.drop_zero] at h
 simp (maxSteps := 2000000) only [go_sem]
 exact h
@[go_sem] theorem Xq16_call {f : SlF} {l : List Pc} (hl : Fits l) {Q : Post3} {k : List Item} {os : List AOper} {d : Option Nat} {e : Env} {σ : Sto} : CallK T Q k os d e σ true i_Xq16 [pcA f l, oddC] ↔ Run T Q (.ops os :: k) (put e d (.int .i64 (ixB l 0))) σ := Xq16_spec hl

theorem Xq10_spec {f : SlF} {l : List Pc} (hl : Fits l) {lv : List Nat} {σ : Sto} {R : Post} : Cw T true i_Xq10 [pcA f l, oddC] lv σ R ↔ R (.bool (!l.all okP)) σ := by
 refine cw_intro T_Xq10 (by simp only [go_sem]) (by simp) ?_; rw [run_unfold Xq10.main.eq_1]
 have hn := ixB_neg l 0
 cases h : l.all okP
 ·have h' : 0 ≤ ixB l 0 := hn.2 h
  simp (maxSteps := 2000000) only [go_sem, Xq16_call hl, h', Bool.not_false, decide_true]
 ·have h' : ¬ 0 ≤ ixB l 0 := fun e => by rw [hn.1 e] at h; cases h
  simp (maxSteps := 2000000) only [go_sem, Xq16_call hl, h', Bool.not_true, decide_false]
@[go_sem] theorem Xq10_call {f : SlF} {l : List Pc} (hl : Fits l) {Q : Post3} {k : List Item} {os : List AOper} {d : Option Nat} {e : Env} {σ : Sto} : CallK T Q k os d e σ true i_Xq10 [pcA f l, oddC] ↔ Run T Q (.ops os :: k) (put e d (.bool (!l.all okP))) σ := Xq10_spec hl

theorem Xq52_spec {f : SlF} {l : List Pc} (hl : Fits l) {lv : List Nat} {σ : Sto} {R : Post} : Cw T true i_Xq52 [pcA f l] lv σ R ↔ R (.bool (validB l)) σ := by
 refine cw_intro T_Xq52 (by simp only [go_sem]) (by simp) ?_; rw [run_unfold Xq52.main.eq_1]
 unfold validB
 by_cases h : l.length ≤ 512
 ·have h' : ((l.length : Nat) : Int) ≤ 512 := by omega
  simp (maxSteps := 2000000) only [go_sem, h', Xq10_call hl, decide_eq_true h, Bool.true_and, Bool.not_not]
 ·have h' : ¬ ((l.length : Nat) : Int) ≤ 512 := by omega
  simp (maxSteps := 2000000) only [go_sem, h', decide_eq_false h, Bool.false_and]
@[go_sem] theorem Xq52_call {f : SlF} {l : List Pc} (hl : Fits l) {Q : Post3} {k : List Item} {os : List AOper} {d : Option Nat} {e : Env} {σ : Sto} : CallK T Q k os d e σ true i_Xq52 [pcA f l] ↔ Run T Q (.ops os :: k) (put e d (.bool (validB l))) σ := Xq52_spec hl

theorem rV_loop {f : SlF} {l : List Pc} (hl : Fits l) : ∀ i, i ≤ l.length →
  Run T (Res [.tmp 2] (.bool (decide (l.length ≤ 512) && (l.drop i).all okP))) (.inLoop Xq60.b0 :: Xq60.k0) (mkE 43 [(0, pcA f l), (3, .int .i64 i)]) [] := by
 refine up_ind ?_ fun i hi ih => ?_
 ·rw [run_round, run_unfold Xq60.b0.eq_1]
  rw [List.drop_length]
  by_cases h : l.length ≤ 512
  ·have h' : ((l.length : Nat) : Int) ≤ 512 := by omega
   simp (maxSteps := 2000000) only [go_sem, run_unfold Xq60.c0.eq_1, Xq60.k0, Int.lt_irrefl, h, h', decide_true, List.all_nil, Bool.true_and]
  ·have h' : ¬ ((l.length : Nat) : Int) ≤ 512 := by omega
   simp (maxSteps := 2000000) only [go_sem, run_unfold Xq60.c0.eq_1, Xq60.k0, Int.lt_irrefl, h, h', decide_false, List.all_nil, Bool.false_and]
 ·have w1 := wrap_succ (show i < 9223372036854775807 by have : l.length < _ := hl; omega)
  rw [List.drop_eq_getElem_cons hi, List.all_cons]
  have bad : okP l[i] = false → (decide (l.length ≤ 512) && (okP l[i] && (l.drop (i + 1)).all okP)) = false := fun h => by rw [h, Bool.false_and, Bool.and_false]
  by_cases h1 : l[i].n < 1
  ·have e : ¬ (1 ≤ l[i].n ∧ l[i].n ≤ 5994 ∧ 0 ≤ l[i].b ∧ l[i].b ≤ 1000000000) := by omega
   rw [bad (decide_eq_false e)]
   rw [run_round, run_unfold Xq60.b0.eq_1]
   simp (maxSteps := 2000000) only [go_sem, hi, h1]
  ·by_cases h2 : 5994 < l[i].n
   ·have e : ¬ (1 ≤ l[i].n ∧ l[i].n ≤ 5994 ∧ 0 ≤ l[i].b ∧ l[i].b ≤ 1000000000) := by omega
    rw [bad (decide_eq_false e)]
    rw [run_round, run_unfold Xq60.b0.eq_1]
    simp (maxSteps := 2000000) only [go_sem, hi, h1, h2]
   ·by_cases h3 : l[i].b < 0
    ·have e : ¬ (1 ≤ l[i].n ∧ l[i].n ≤ 5994 ∧ 0 ≤ l[i].b ∧ l[i].b ≤ 1000000000) := by omega
     rw [bad (decide_eq_false e)]
     rw [run_round, run_unfold Xq60.b0.eq_1]
     simp (maxSteps := 2000000) only [go_sem, hi, h1, h2, h3]
    ·by_cases h4 : 1000000000 < l[i].b
     ·have e : ¬ (1 ≤ l[i].n ∧ l[i].n ≤ 5994 ∧ 0 ≤ l[i].b ∧ l[i].b ≤ 1000000000) := by omega
      rw [bad (decide_eq_false e)]
      rw [run_round, run_unfold Xq60.b0.eq_1]
      simp (maxSteps := 2000000) only [go_sem, hi, h1, h2, h3, h4]
     ·have e : (1 ≤ l[i].n ∧ l[i].n ≤ 5994 ∧ 0 ≤ l[i].b ∧ l[i].b ≤ 1000000000) := by omega
      have e' : okP l[i] = true := decide_eq_true e
      rw [e', Bool.true_and]
      rw [run_round, run_unfold Xq60.b0.eq_1]
      simp (maxSteps := 2000000) only [go_sem, hi, h1, h2, h3, h4, w1, run_unfold Xq60.c0.eq_1, Xq60.k0]
      exact ih
theorem Xq60_spec {f : SlF} {l : List Pc} (hl : Fits l) {lv : List Nat} {σ : Sto} {R : Post} : Cw T true i_Xq60 [pcA f l] lv σ R ↔ R (.bool (validB l)) σ := by
 refine cw_intro T_Xq60 (by simp only [go_sem]) (by simp) ?_; rw [run_unfold Xq60.main.eq_1]
 have h := rV_loop (f := f) hl 0 (by omega)
 simp only [List.drop_zero] at h
 simp (maxSteps := 2000000) only [go_sem]
 exact h
@[go_sem] theorem Xq60_call {f : SlF} {l : List Pc} (hl : Fits l) {Q : Post3} {k : List Item} {os : List AOper} {d : Option Nat} {e : Env} {σ : Sto} : CallK T Q k os d e σ true i_Xq60 [pcA f l] ↔ Run T Q (.ops os :: k) (put e d (.bool (validB l))) σ := Xq60_spec hl

end Go.Abs
/- Walks of chapter 36: the program's pieces, what reading costs, sums; what two bytes describe. -/
set_option linter.unusedSimpArgs false
set_option linter.unusedVariables false
set_option maxRecDepth 100000
set_option maxHeartbeats 4000000
namespace Go.Abs
open Go
attribute [local go_sem_proc] Nat.reduceLT Nat.reduceEqDiff Nat.reduceLeDiff Nat.reduceAdd Nat.reduceSub Nat.reduceMul Int.reduceLT Int.reduceLE Int.reduceEq Int.reduceNeg
attribute [local go_sem_proc ↓] reduceIte

theorem pieces_loop {f : SlF} {l : List Pc} (hl : l.length ≤ 100000) : ∀ i, i ≤ l.length → ∀ D, D ++ l.drop i = l →
  Run T (Res [.tmp 2] (pcA .lst l)) (.inLoop Xq48.b0 :: Xq48.k0) (mkE 27 [(0, pcA f l), (3, pcR 0 D), (4, .int .i64 i)]) [pcO D] := by
 refine up_ind (fun D e => ?_) fun i hi ih D e => ?_
 ·rw [List.drop_length, List.append_nil] at e
  subst e
  rw [run_round, run_unfold Xq48.b0.eq_1]
  simp (maxSteps := 2000000) only [go_sem, run_unfold Xq48.c0.eq_1, Xq48.k0, Int.lt_irrefl]
  rw [snap_pc (n := 62) (o := 0) (l := D) rfl]
 ·rw [List.drop_eq_getElem_cons hi] at e
  have w1 := wrap_succ (show i < 9223372036854775807 by omega)
  have hD : D.length ≤ 100000 := by have := congrArg List.length e; simp only [List.length_append, List.length_cons] at this; omega
  have ih' := ih (D ++ [l[i]]) (by rw [List.append_assoc]; exact e)
  rw [run_round, run_unfold Xq48.b0.eq_1]
  simp (maxSteps := 2000000) only [go_sem, hi, w1]
  rw [app_pc (X := D) (y := l[i]) rfl rfl (by omega)]
  simp (maxSteps := 2000000) only [go_sem, w1]
  exact ⟨v_names_flat (fun _ => rfl) _, ih'⟩
theorem Xq48_spec {f : SlF} {l : List Pc} (hl : l.length ≤ 100000) {lv : List Nat} {σ : Sto} {R : Post} : Cw T true i_Xq48 [pcA f l] lv σ R ↔ R (pcA .lst l) σ := by
 refine cw_intro T_Xq48 (by simp only [go_sem]) (by simp) ?_; rw [run_unfold Xq48.main.eq_1]
 have h := pieces_loop (f := f) hl 0 (by omega) [] rfl
 simp (maxSteps := 2000000) only [go_sem]
 exact h
@[go_sem] theorem Xq48_call {f : SlF} {l : List Pc} (hl : l.length ≤ 100000) {Q : Post3} {k : List Item} {os : List AOper} {d : Option Nat} {e : Env} {σ : Sto} : CallK T Q k os d e σ true i_Xq48 [pcA f l] ↔ Run T Q (.ops os :: k) (put e d (pcA .lst l)) σ := Xq48_spec hl


def sumR (l : List Pc) : Int := (l.map fun p => 4096 + p.b).sum
theorem sumR_cons {p : Pc} {l : List Pc} : sumR (p :: l) = 4096 + p.b + sumR l := by simp [sumR]
def okAll (l : List Pc) : Prop := ∀ p ∈ l, 1 ≤ p.n ∧ p.n ≤ 5994 ∧ 0 ≤ p.b ∧ p.b ≤ 1000000000
theorem validB_ok {l : List Pc} : validB l = true ↔ l.length ≤ 512 ∧ okAll l := by
 rw [validB, Bool.and_eq_true, decide_eq_true_eq, List.all_eq_true]
 constructor
 ·rintro ⟨h1, h2⟩; exact ⟨h1, fun p hp => of_decide_eq_true (h2 p hp)⟩
 ·rintro ⟨h1, h2⟩; exact ⟨h1, fun p hp => decide_eq_true (h2 p hp)⟩
theorem Xq43_spec {p : Pc} {lv : List Nat} {σ : Sto} {R : Post} : Cw T true i_Xq43 [.agg [.int .i64 p.n, .int .i64 p.b]] lv σ R ↔ R (.int .i64 (IntKind.i64.wrap (4096 + p.b))) σ := by
 refine cw_intro T_Xq43 (by simp only [go_sem]) (by simp) ?_; rw [run_unfold Xq43.main.eq_1]
 simp (maxSteps := 2000000) only [go_sem]
@[go_sem] theorem Xq43_call {p : Pc} {Q : Post3} {k : List Item} {os : List AOper} {d : Option Nat} {e : Env} {σ : Sto} : CallK T Q k os d e σ true i_Xq43 [.agg [.int .i64 p.n, .int .i64 p.b]] ↔ Run T Q (.ops os :: k) (put e d (.int .i64 (IntKind.i64.wrap (4096 + p.b)))) σ := Xq43_spec

abbrev rdC : AVal := .clo (.func i_Xq43) [] []
theorem sumP_loop {f : SlF} {l : List Pc} (hl : l.length ≤ 512) (ho : okAll l) : ∀ i, i ≤ l.length → ∀ c : Int, 0 ≤ c → c ≤ i * 1000004096 → c + sumR (l.drop i) = sumR l →
  Run T (Res [.tmp 4] (.int .i64 (sumR l))) (.inLoop Xq29.b0 :: Xq29.k0) (mkE 21 [(1, rdC), (5, .int .i64 c), (8, pcA f l), (9, .int .i64 l.length), (10, .int .i64 i)]) [] := by
 refine up_ind (fun c h0 h1 e => ?_) fun i hi ih c h0 h1 e => ?_
 ·rw [List.drop_length, show sumR [] = 0 from rfl, Int.add_zero] at e
  subst e
  rw [run_round, run_unfold Xq29.b0.eq_1]
  simp (maxSteps := 2000000) only [go_sem, run_unfold Xq29.c0.eq_1, run_unfold Xq29.c1.eq_1, Xq29.k0, Int.lt_irrefl]
 ·rw [List.drop_eq_getElem_cons hi, sumR_cons] at e
  obtain ⟨o1, o2, o3, o4⟩ := ho _ (List.getElem_mem hi)
  have w1 := wrap_succ (show i < 9223372036854775807 by omega)
  have w2 : IntKind.i64.wrap (4096 + l[i].b) = 4096 + l[i].b := wrap_i64 (by omega) (by omega)
  have w3 : IntKind.i64.wrap (c + (4096 + l[i].b)) = c + (4096 + l[i].b) := wrap_i64 (by omega) (by omega)
  have ih' := ih (c + (4096 + l[i].b)) (by omega) (by rw [Int.natCast_succ, Int.add_mul]; omega) (by rw [← e, Int.add_assoc])
  have hc := @Xq43_call l[i]
  rw [w2] at hc
  rw [run_round, run_unfold Xq29.b0.eq_1]
  simp (maxSteps := 2000000) only [go_sem, hi, w1, w3, hc]
  exact ih'
theorem Xq29_spec {f : SlF} {l : List Pc} (hl : l.length ≤ 512) (ho : okAll l) {lv : List Nat} {σ : Sto} {R : Post} : Cw T true i_Xq29 [pcA f l, rdC] lv σ R ↔ R (.int .i64 (sumR l)) σ := by
 refine cw_intro T_Xq29 (by simp only [go_sem]) (by simp) ?_; rw [run_unfold Xq29.main.eq_1]
 have h := sumP_loop (f := f) hl ho 0 (by omega) 0 (by omega) (by omega) (by rw [List.drop_zero, Int.zero_add])
 simp (maxSteps := 2000000) only [go_sem]
 exact h
@[go_sem] theorem Xq29_call {f : SlF} {l : List Pc} (hl : l.length ≤ 512) (ho : okAll l) {Q : Post3} {k : List Item} {os : List AOper} {d : Option Nat} {e : Env} {σ : Sto} : CallK T Q k os d e σ true i_Xq29 [pcA f l, rdC] ↔ Run T Q (.ops os :: k) (put e d (.int .i64 (sumR l))) σ := Xq29_spec hl ho

def readN (l : List Pc) : Int := if validB l = true then sumR l else 0
def readE (l : List Pc) : Int := if validB l = true then 0 else 1
theorem Xq62_spec {f : SlF} {l : List Pc} (hl : Fits l) {lv : List Nat} {σ : Sto} {R : Post} : Cw T true i_Xq62 [pcA f l] lv σ R ↔ R (.tup [.int .i64 (readN l), .int .i64 (readE l)]) σ := by
 refine cw_intro T_Xq62 (by simp only [go_sem]) (by simp) ?_; rw [run_unfold Xq62.main.eq_1]
 unfold readN readE
 cases h : validB l
 ·simp (maxSteps := 2000000) only [go_sem, Xq52_call hl, h]
 ·obtain ⟨h1, h2⟩ := validB_ok.1 h
  simp (maxSteps := 2000000) only [go_sem, Xq52_call hl, h, Xq29_call h1 h2]
@[go_sem] theorem Xq62_call {f : SlF} {l : List Pc} (hl : Fits l) {Q : Post3} {k : List Item} {os : List AOper} {d : Option Nat} {e : Env} {σ : Sto} : CallK T Q k os d e σ true i_Xq62 [pcA f l] ↔ Run T Q (.ops os :: k) (put e d (.tup [.int .i64 (readN l), .int .i64 (readE l)])) σ := Xq62_spec hl

theorem Xq65_spec {f : SlF} {l : List Pc} (hl : l.length ≤ 100000) {lv : List Nat} {σ : Sto} {R : Post} : Cw T true i_Xq65 [pcA f l] lv σ R ↔ R (.agg [.nils, .nils, .int .i64 (readN l), .int .i64 (readE l)]) σ := by
 refine cw_intro T_Xq65 (by simp only [go_sem]) (by simp) ?_; rw [run_unfold Xq65.main.eq_1]
 have hf : Fits l := by show l.length < _; omega
 simp (maxSteps := 2000000) only [go_sem, Xq48_call hl, Xq62_call hf]
@[go_sem] theorem Xq65_call {f : SlF} {l : List Pc} (hl : l.length ≤ 100000) {Q : Post3} {k : List Item} {os : List AOper} {d : Option Nat} {e : Env} {σ : Sto} : CallK T Q k os d e σ true i_Xq65 [pcA f l] ↔ Run T Q (.ops os :: k) (put e d (.agg [.nils, .nils, .int .i64 (readN l), .int .i64 (readE l)])) σ := Xq65_spec hl


def totN (l : List Pc) : Int := (l.map (·.n)).sum
def totB (l : List Pc) : Int := (l.map (·.b)).sum
theorem tot_loop {f : SlF} {l : List Pc} (hl : Fits l) : ∀ i, i ≤ l.length → ∀ c d : Int,
  ∃ N B : Int, Run T (Res [.cell 2 true 2] (.agg [.int .i64 N, .int .i64 B])) (.inLoop Xq59.b0 :: Xq59.k0) (mkE 31 [(0, pcA f l), (2, .ptr 0 2 0), (3, .ptr 1 2 0), (4, .int .i64 i)]) [.cells false [.int .i64 0, .int .i64 0], .cells false [.int .i64 c, .int .i64 d]] ∧
   (c + totN (l.drop i) ≤ 1000000000000000 → d + totB (l.drop i) ≤ 1000000000000000 → 0 ≤ c → 0 ≤ d → (∀ p ∈ l, 0 ≤ p.n ∧ 0 ≤ p.b) → N = c + totN (l.drop i) ∧ B = d + totB (l.drop i)) := by
 refine up_ind (fun c d => ⟨c, d, ?_, ?_⟩) fun i hi ih c d => ?_
 ·rw [run_round, run_unfold Xq59.b0.eq_1]
  simp (maxSteps := 2000000) only [go_sem, run_unfold Xq59.c0.eq_1, Xq59.k0, Int.lt_irrefl]
 ·intro _ _ _ _ _
  rw [List.drop_length]
  exact ⟨(Int.add_zero _).symm, (Int.add_zero _).symm⟩
 ·have w1 := wrap_succ (show i < 9223372036854775807 by have : l.length < _ := hl; omega)
  obtain ⟨N, B, h1, h2⟩ := ih (IntKind.i64.wrap (c + l[i].n)) (IntKind.i64.wrap (d + l[i].b))
  refine ⟨N, B, ?_, fun a1 a2 a3 a4 a5 => ?_⟩
  ·rw [run_round, run_unfold Xq59.b0.eq_1]
   simp (maxSteps := 2000000) only [go_sem, hi, w1]
   exact h1
  ·rw [List.drop_eq_getElem_cons hi] at a1 a2 ⊢
   have nn : ∀ (m : List Pc), (∀ p ∈ m, 0 ≤ p.n ∧ 0 ≤ p.b) → 0 ≤ totN m ∧ 0 ≤ totB m := by
    intro m
    induction m with
    | nil => intro _; exact ⟨Int.le_refl _, Int.le_refl _⟩
    | cons p m ih =>
     intro h
     have h1 := h p List.mem_cons_self
     have h2 := ih fun q hq => h q (List.mem_cons_of_mem _ hq)
     simp only [totN, totB, List.map_cons, List.sum_cons] at h2 ⊢
     omega
   obtain ⟨b1, b2⟩ := a5 _ (List.getElem_mem hi)
   obtain ⟨b3, b4⟩ := nn (l.drop (i + 1)) fun p hp => a5 p (List.mem_of_mem_drop hp)
   have eN : totN (l[i] :: l.drop (i + 1)) = l[i].n + totN (l.drop (i + 1)) := by simp only [totN, List.map_cons, List.sum_cons]
   have eB : totB (l[i] :: l.drop (i + 1)) = l[i].b + totB (l.drop (i + 1)) := by simp only [totB, List.map_cons, List.sum_cons]
   rw [eN] at a1 ⊢
   rw [eB] at a2 ⊢
   have w2 : IntKind.i64.wrap (c + l[i].n) = c + l[i].n := wrap_i64 (by omega) (by omega)
   have w3 : IntKind.i64.wrap (d + l[i].b) = d + l[i].b := wrap_i64 (by omega) (by omega)
   rw [w2, w3] at h2
   have := h2 (by omega) (by omega) (by omega) (by omega) a5
   omega
structure SmallL (l : List Pc) : Prop where
 n : l.length ≤ 100000
 p : ∀ p ∈ l, 0 ≤ p.n ∧ 0 ≤ p.b
 tn : totN l ≤ 1000000000000000
 tb : totB l ≤ 1000000000000000
theorem Xq59_spec {f : SlF} {l : List Pc} (h : SmallL l) {lv : List Nat} {σ : Sto} {R : Post} : Cw T true i_Xq59 [pcA f l] lv σ R ↔ R (.agg [.int .i64 (totN l), .int .i64 (totB l)]) σ := by
 refine cw_intro T_Xq59 (by simp only [go_sem]) (by simp) ?_; rw [run_unfold Xq59.main.eq_1]
 obtain ⟨N, B, h1, h2⟩ := tot_loop (f := f) (l := l) (by have := h.n; show l.length < _; omega) 0 (by omega) 0 0
 obtain ⟨rfl, rfl⟩ := h2 (by rw [List.drop_zero, Int.zero_add]; exact h.tn) (by rw [List.drop_zero, Int.zero_add]; exact h.tb) (by omega) (by omega) h.p
 simp only [List.drop_zero, Int.zero_add] at h1
 simp (maxSteps := 2000000) only [go_sem]
 exact h1
@[go_sem] theorem Xq59_call {f : SlF} {l : List Pc} (h : SmallL l) {Q : Post3} {k : List Item} {os : List AOper} {d : Option Nat} {e : Env} {σ : Sto} : CallK T Q k os d e σ true i_Xq59 [pcA f l] ↔ Run T Q (.ops os :: k) (put e d (.agg [.int .i64 (totN l), .int .i64 (totB l)])) σ := Xq59_spec h


abbrev twoA (f : SlF) (z : List (Nat × Nat)) : AVal := sv 2 f (z.map fun p => .agg [.int .u8 (p.1 : Int), .int .u8 (p.2 : Int)])
def mkP (p : Nat × Nat) : Pc := ⟨(4 : Int) ^ (p.1 % 4) + ((p.1 / 16 : Nat) : Int), (p.2 : Int) * 40⟩
def madeP (z : List (Nat × Nat)) : List Pc := (z.take 60).map mkP
@[go_sem] theorem iaddrA_f0 {a b : AVal} {σ : Sto} : iaddrAV 2 1 (.fptr [a, b]) (.int .i64 0) σ = some (.fptr [a, b], σ) := rfl
@[go_sem] theorem iaddrA_f1 {a b : AVal} {σ : Sto} : iaddrAV 2 1 (.fptr [a, b]) (.int .i64 1) σ = some (.fptr [b], σ) := rfl
theorem made_in {f : SlF} {z : List (Nat × Nat)} {i : Nat} {X : AObj} {t3 : AVal} {Q : Post3} (hi : i < z.length)
  (next : Run T Q (.inLoop Xq64.b1 :: Xq64.k1 1) (mkE 52 [(0, twoA f z), (3, t3), (4, .int .i64 i), (5, .int .i64 (4 ^ (z[i].1 % 4) : Nat)), (6, .int .i64 (z[i].1 % 4 : Nat))]) [X]) :
  ∀ k, k ≤ z[i].1 % 4 → Run T Q (.inLoop Xq64.b1 :: Xq64.k1 1) (mkE 52 [(0, twoA f z), (3, t3), (4, .int .i64 i), (5, .int .i64 (4 ^ k : Nat)), (6, .int .i64 k)]) [X] := by
 refine up_ind next fun k hk ih => ?_
 have hlt : ((k : Nat) : Int) < ((z[i].1 % 4 : Nat) : Int) := by omega
 have h3 : ((z[i].1 : Nat) : Int).tmod 4 = ((z[i].1 % 4 : Nat) : Int) := rfl
 have w0 : IntKind.i64.wrap ((z[i].1 % 4 : Nat) : Int) = ((z[i].1 % 4 : Nat) : Int) := wrap_nat (by omega)
 have w1 := wrap_succ (show k < 9223372036854775807 by omega)
 have hk4 : k < 4 := by omega
 have w2 : IntKind.i64.wrap (((4 ^ k : Nat) : Int) * 4) = ((4 ^ (k + 1) : Nat) : Int) := by
  rcases (by omega : k = 0 ∨ k = 1 ∨ k = 2 ∨ k = 3) with rfl | rfl | rfl | rfl <;> decide
 rw [run_round, run_unfold Xq64.b1.eq_1]
 simp (maxSteps := 2000000) only [go_sem, hi, h3, w0, hlt, w1, w2, run_unfold Xq64.c0.eq_1, run_unfold Xq64.c1.eq_1, run_unfold Xq64.c2.eq_1, Xq64.k0, Xq64.k1]
 exact ih

theorem mkP_eq {p : Nat × Nat} (h1 : p.1 < 256) (h2 : p.2 < 256) : IntKind.i64.wrap (((4 ^ (p.1 % 4) : Nat) : Int) + IntKind.i64.wrap (IntKind.u8.wrap (((p.1 : Nat) : Int).tdiv 16))) = (mkP p).n ∧ IntKind.i64.wrap (IntKind.i64.wrap ((p.2 : Nat) : Int) * 40) = (mkP p).b := by
 have e1 : ((p.1 : Nat) : Int).tdiv 16 = ((p.1 / 16 : Nat) : Int) := rfl
 have e2 : 4 ^ (p.1 % 4) ≤ 64 := by
  rcases (by omega : p.1 % 4 = 0 ∨ p.1 % 4 = 1 ∨ p.1 % 4 = 2 ∨ p.1 % 4 = 3) with h | h | h | h <;> rw [h] <;> decide
 rw [e1, wrap_u8 (by omega) (by omega), wrap_nat (by omega), wrap_nat (by omega)]
 unfold mkP
 refine ⟨?_, ?_⟩
 ·show _ = (4 : Int) ^ (p.1 % 4) + ((p.1 / 16 : Nat) : Int)
  have e3 : (4 : Int) ^ (p.1 % 4) = ((4 ^ (p.1 % 4) : Nat) : Int) := by rw [Int.natCast_pow]; rfl
  rw [e3]
  generalize 4 ^ (p.1 % 4) = q at *
  rw [wrap_i64 (by omega) (by omega)]
 ·rw [wrap_i64 (by omega) (by omega)]
theorem made_loop {f : SlF} {z : List (Nat × Nat)} (hz : z.length < 9223372036854775808) (hb : ∀ p ∈ z, p.1 < 256 ∧ p.2 < 256) : ∀ (c i : Nat), c + i = min 60 z.length → 
  Run T (Res [.tmp 2] (pcA .lst (madeP z))) (.inLoop Xq64.b0 :: Xq64.k0) (mkE 52 [(0, twoA f z), (3, pcR 0 ((z.take i).map mkP)), (4, .int .i64 i)]) [pcO ((z.take i).map mkP)] := by

 intro c
 induction c with
 | zero =>
  intro i e
  have hm : (z.take i).map mkP = madeP z := by
   unfold madeP
   congr 1
   rcases Nat.le_total 60 z.length with h | h
   ·rw [show i = 60 by omega]
   ·rw [List.take_of_length_le (by omega), List.take_of_length_le h]
  rw [hm]
  by_cases h : i < z.length
  ·have h' : ¬ ((i : Nat) : Int) < 60 := by omega
   rw [run_round, run_unfold Xq64.b0.eq_1]
   simp (maxSteps := 2000000) only [go_sem, h, h', run_unfold Xq64.c0.eq_1, run_unfold Xq64.c1.eq_1, run_unfold Xq64.c2.eq_1, Xq64.k0, Xq64.k1]
   rw [snap_pc (n := 62) (o := 0) (l := madeP z) rfl]
  ·rw [run_round, run_unfold Xq64.b0.eq_1]
   simp (maxSteps := 2000000) only [go_sem, h, run_unfold Xq64.c0.eq_1, run_unfold Xq64.c1.eq_1, run_unfold Xq64.c2.eq_1, Xq64.k0, Xq64.k1]
   rw [snap_pc (n := 62) (o := 0) (l := madeP z) rfl]
 | succ c ih =>
  intro i e
  have hi : i < z.length := by omega
  have h' : ((i : Nat) : Int) < 60 := by omega
  have w1 := wrap_succ (show i < 9223372036854775807 by omega)
  obtain ⟨b1, b2⟩ := hb _ (List.getElem_mem hi)
  obtain ⟨m1, m2⟩ := mkP_eq b1 b2
  have ih' := ih (i + 1) (by omega)
  have ht : (z.take (i + 1)).map mkP = (z.take i).map mkP ++ [mkP z[i]] := by rw [List.take_succ_eq_append_getElem hi, List.map_append]; rfl
  rw [ht] at ih'
  have hin := made_in (f := f) (z := z) (i := i) (X := pcO ((z.take i).map mkP)) (t3 := pcR 0 ((z.take i).map mkP)) (Q := Res [.tmp 2] (pcA .lst (madeP z))) hi ?_ 0 (Nat.zero_le _)
  ·rw [run_round, run_unfold Xq64.b0.eq_1]
   simp (maxSteps := 2000000) only [go_sem, hi, h']
   exact hin
  ·have hlt : ¬ ((z[i].1 % 4 : Nat) : Int) < ((z[i].1 % 4 : Nat) : Int) := Int.lt_irrefl _
   have h3 : ((z[i].1 : Nat) : Int).tmod 4 = ((z[i].1 % 4 : Nat) : Int) := rfl
   have w0 : IntKind.i64.wrap ((z[i].1 % 4 : Nat) : Int) = ((z[i].1 % 4 : Nat) : Int) := wrap_nat (by omega)
   have hl : ((z.take i).map mkP).length ≤ 1000000 := by rw [List.length_map, List.length_take]; omega
   generalize (z.take i).map mkP = D at *
   rw [run_round, run_unfold Xq64.b1.eq_1]
   simp (maxSteps := 2000000) only [go_sem, hi, h3, w0, hlt, run_unfold Xq64.c0.eq_1, run_unfold Xq64.c1.eq_1, run_unfold Xq64.c2.eq_1, Xq64.k0, Xq64.k1, Xq64.k1, m1, m2]
   rw [app_pc (X := D) (y := mkP z[i]) rfl rfl hl]
   simp (maxSteps := 2000000) only [go_sem, w1, run_unfold Xq64.c0.eq_1, run_unfold Xq64.c1.eq_1, run_unfold Xq64.c2.eq_1, Xq64.k0, Xq64.k1]
   exact ⟨v_names_flat (fun _ => rfl) _, ih'⟩
theorem Xq64_spec {f : SlF} {z : List (Nat × Nat)} (hz : z.length < 9223372036854775808) (hb : ∀ p ∈ z, p.1 < 256 ∧ p.2 < 256) {lv : List Nat} {σ : Sto} {R : Post} : Cw T true i_Xq64 [twoA f z] lv σ R ↔ R (pcA .lst (madeP z)) σ := by
 refine cw_intro T_Xq64 (by simp only [go_sem]) (by simp) ?_; rw [run_unfold Xq64.main.eq_1]
 have h := made_loop (f := f) hz hb (min 60 z.length) 0 (by omega)
 simp (maxSteps := 2000000) only [go_sem]
 exact h
@[go_sem] theorem Xq64_call {f : SlF} {z : List (Nat × Nat)} (hz : z.length < 9223372036854775808) (hb : ∀ p ∈ z, p.1 < 256 ∧ p.2 < 256) {Q : Post3} {k : List Item} {os : List AOper} {d : Option Nat} {e : Env} {σ : Sto} : CallK T Q k os d e σ true i_Xq64 [twoA f z] ↔ Run T Q (.ops os :: k) (put e d (pcA .lst (madeP z))) σ := Xq64_spec hz hb

end Go.Abs
