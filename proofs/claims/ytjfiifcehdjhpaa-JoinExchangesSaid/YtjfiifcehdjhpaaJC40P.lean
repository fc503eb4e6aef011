/- Parts of the proof: C40P, C40YA, C40YB, C40YC, C40YD, C40YE, C40YF, C40YG, C40YH, C40YI, C40O, C40W, C40YK, C40YL. -/
import Derived.Test.YtjfiifcehdjhpaaC40M
import Derived.Test.YtjfiifcehdjhpaaAbsVal2
set_option linter.all false
/- Walks of chapter 40: rows in order. -/
set_option linter.unusedSimpArgs false
set_option linter.unusedVariables false
set_option maxRecDepth 100000
set_option maxHeartbeats 4000000
namespace Go.Abs
open Go
attribute [local go_sem_proc] Nat.reduceLT Nat.reduceEqDiff Nat.reduceLeDiff Nat.reduceAdd Nat.reduceSub Nat.reduceMul Int.reduceLT Int.reduceLE Int.reduceEq Int.reduceNeg
attribute [local go_sem_proc ↓] reduceIte

theorem sgn_anti (a b : Int) : sgn b a = - sgn a b := by unfold sgn; repeat' split
                                                         all_goals omega
theorem cmpL_anti : ∀ (x y : List UInt8), cmpL y x = - cmpL x y
  | [], [] => by simp [cmpL]
  | [], b :: y => by simp [cmpL]
  | a :: x, [] => by simp [cmpL]
  | a :: x, b :: y => by
    simp only [cmpL]
    by_cases h : a = b
    · subst h; simp [cmpL_anti x y]
    · have h' : ¬ b = a := fun e => h e.symm
      by_cases hl : a < b
      · have : ¬ b < a := fun h2 => UInt8.lt_irrefl a (UInt8.lt_trans hl h2)
        simp [h, h', hl, this]
      · have : b < a := by
          rcases UInt8.lt_or_lt_of_ne h with h2 | h2
          · exact absurd h2 hl
          · exact h2
        simp [h, h', hl, this]
theorem cmpV_anti (a b : Val) : cmpV b a = - cmpV a b := by
  unfold cmpV
  by_cases h1 : a.k = b.k
  · by_cases h2 : a.i = b.i
    · simp only [h1, h2, if_true]; exact cmpL_anti _ _
    · have h2' : ¬ b.i = a.i := fun e => h2 e.symm
      simp only [h1, h2, h2', if_true, if_false]; exact sgn_anti _ _
  · have h1' : ¬ b.k = a.k := fun e => h1 e.symm
    simp only [h1, h1', if_false]; exact sgn_anti _ _
theorem sgn_trans {a b c : Int} (h1 : sgn a b ≤ 0) (h2 : sgn b c ≤ 0) : sgn a c ≤ 0 ∧ (sgn a c = 0 → sgn a b = 0 ∧ sgn b c = 0) := by
  unfold sgn at *; repeat' split at h1
  all_goals repeat' split at h2
  all_goals repeat' split
  all_goals omega
theorem cmpL_trans : ∀ {x y z : List UInt8}, cmpL x y ≤ 0 → cmpL y z ≤ 0 → cmpL x z ≤ 0 ∧ (cmpL x z = 0 → cmpL x y = 0 ∧ cmpL y z = 0)
  | [], [], z, _, h2 => ⟨h2, fun h => ⟨rfl, h⟩⟩
  | [], b :: y, [], _, h2 => by simp [cmpL] at h2
  | [], b :: y, c :: z, _, _ => by simp [cmpL]
  | a :: x, [], z, h1, _ => by simp [cmpL] at h1
  | a :: x, b :: y, [], _, h2 => by simp [cmpL] at h2
  | a :: x, b :: y, c :: z, h1, h2 => by
    simp only [cmpL] at h1 h2 ⊢
    by_cases e1 : a = b
    · subst e1
      by_cases e2 : a = c
      · subst e2; simp only [if_true] at h1 h2 ⊢; exact cmpL_trans h1 h2
      · simp only [if_true, if_neg e2] at h1 h2 ⊢
        by_cases l : a < c
        · simp only [if_pos l]; omega
        · simp only [if_neg l] at h2; omega
    · simp only [if_neg e1] at h1 ⊢
      by_cases l : a < b
      · by_cases e2 : b = c
        · subst e2; simp only [if_neg e1, if_pos l]; omega
        · simp only [if_neg e2] at h2 ⊢
          by_cases l2 : b < c
          · have l3 := UInt8.lt_trans l l2
            have e3 : a ≠ c := fun e => by subst e; exact UInt8.lt_irrefl _ l3
            simp only [if_neg e3, if_pos l3]; omega
          · simp only [if_neg l2] at h2; omega
      · simp only [if_neg l] at h1; omega
theorem cmpV_trans {a b c : Val} (h1 : cmpV a b ≤ 0) (h2 : cmpV b c ≤ 0) : cmpV a c ≤ 0 ∧ (cmpV a c = 0 → cmpV a b = 0 ∧ cmpV b c = 0) := by
  unfold cmpV at *
  by_cases e1 : a.k = b.k
  · by_cases e2 : b.k = c.k
    · simp only [e1, e2, if_true] at h1 h2 ⊢
      by_cases e3 : a.i = b.i
      · by_cases e4 : b.i = c.i
        · simp only [e3, e4, if_true] at h1 h2 ⊢; exact cmpL_trans h1 h2
        · simp only [e3, e4, if_true, if_false] at h1 h2 ⊢
          exact ⟨h2, fun h => absurd (sgn_zero.1 h) e4⟩
      · by_cases e4 : b.i = c.i
        · have e5 : ¬ a.i = c.i := fun e => e3 (by omega)
          simp only [e3, e4, e5, if_true, if_false] at h1 h2 ⊢
          exact ⟨h1, fun h => absurd (sgn_zero.1 h) e5⟩
        · simp only [e3, e4, if_false] at h1 h2 ⊢
          have := sgn_trans h1 h2
          have e5 : ¬ a.i = c.i := fun e => by
            have := this.2 (sgn_zero.2 e)
            exact e3 (sgn_zero.1 this.1)
          simp only [e5, if_false]
          exact ⟨this.1, fun h => absurd (sgn_zero.1 h) e5⟩
    · simp only [e1, e2, if_true, if_false] at h1 h2 ⊢
      exact ⟨h2, fun h => absurd (sgn_zero.1 h) e2⟩
  · by_cases e2 : b.k = c.k
    · have e5 : ¬ a.k = c.k := fun e => e1 (by omega)
      simp only [e1, e2, e5, if_true, if_false] at h1 h2 ⊢
      exact ⟨h1, fun h => absurd (sgn_zero.1 h) e5⟩
    · simp only [e1, e2, if_false] at h1 h2 ⊢
      have := sgn_trans h1 h2
      have e5 : ¬ a.k = c.k := fun e => by
        have := this.2 (sgn_zero.2 e)
        exact e1 (sgn_zero.1 this.1)
      simp only [e5, if_false]
      exact ⟨this.1, fun h => absurd (sgn_zero.1 h) e5⟩
theorem cmpV_self (a : Val) : cmpV a a = 0 := cmpV_zero.2 rfl

def colAt (b : Rows) (j : Int) (k : Nat) : Val := colN (b.getD k (.lst, [])).2 j
theorem colAt_get {b : Rows} {j : Int} {k : Nat} (h : k < b.length) : colAt b j k = colN b[k].2 j := by
  unfold colAt; rw [List.getD_eq_getElem?_getD, List.getElem?_eq_getElem h]; rfl
def srtB (b : Rows) (j : Int) (lo n : Nat) : Bool := (List.range n).all fun t => decide (cmpV (colAt b j (lo + t)) (colAt b j (lo + t + 1)) ≤ 0)
theorem srtB_front {b : Rows} {j : Int} {lo n : Nat} : srtB b j lo (n + 1) = (decide (cmpV (colAt b j lo) (colAt b j (lo + 1)) ≤ 0) && srtB b j (lo + 1) n) := by
  unfold srtB
  rw [List.range_succ_eq_map, List.all_cons, List.all_map]
  congr 1
  congr 1
  funext t
  simp only [Function.comp, Nat.succ_eq_add_one]
  rw [show lo + (t + 1) = lo + 1 + t by omega]
theorem srtB_back {b : Rows} {j : Int} {lo n : Nat} : srtB b j lo (n + 1) = (srtB b j lo n && decide (cmpV (colAt b j (lo + n)) (colAt b j (lo + n + 1)) ≤ 0)) := by
  unfold srtB
  rw [List.range_succ, List.all_append, List.all_cons, List.all_nil, Bool.and_true]
abbrev srt (b : Rows) (j : Int) : Bool := srtB b j 0 (b.length - 1)

theorem colN_short {b : Rows} {j : Int} (hb : RowsFit b) (hj : AllCol b j) {p : SlF × List Val} (hp : p ∈ b) : Short (colN p.2 j) := by
  obtain ⟨_, h2⟩ := hb.2 _ hp
  have h3 := hj _ hp
  rw [← colN_get h3]
  exact h2 _ (List.getElem_mem _)
theorem Xq39_loop {f : SlF} {b : Rows} {j : Int} (hb : RowsFit b) (hj : AllCol b j) : ∀ (n i : Nat), b.length = i + 1 + n →
    Run T (Res [.tmp 4] (.bool (srtB b j i n))) (.inLoop Xq39.b0 :: Xq39.k0) (mkE 29 [(0, rowsA f b), (1, .int .i64 j), (5, .int .i64 ((i + 1 : Nat) : Int))]) [] := by
  have hb1 := hb.1
  intro n
  induction n with
  | zero =>
    intro i hn
    rw [run_round, run_unfold Xq39.b0.eq_1]
    have h1 : ¬ ((i + 1 : Nat) : Int) < b.length := by omega
    simp (maxSteps := 2000000) only [go_sem, run_unfold Xq39.c0.eq_1, Xq39.k0, h1]
    rfl
  | succ n ih =>
    intro i hn
    rw [run_round, run_unfold Xq39.b0.eq_1]
    have h1 : i + 1 < b.length := by omega
    have h2 : i < b.length := by omega
    have hj1 := hj _ (List.getElem_mem h1)
    have hj2 := hj _ (List.getElem_mem h2)
    have a1 := fun {σ : Sto} => @iaddrV_int' 3 b[i + 1].1 Val (fun v => .agg [.int .i64 v.k, .int .i64 v.i, .str v.s]) b[i + 1].2 .i64 j σ hj1
    have a2 := fun {σ : Sto} => @iaddrV_int' 3 b[i].1 Val (fun v => .agg [.int .i64 v.k, .int .i64 v.i, .str v.s]) b[i].2 .i64 j σ hj2
    simp only [colN_get hj1] at a1
    simp only [colN_get hj2] at a2
    have hw : IntKind.i64.wrap (((i + 1 : Nat) : Int) - 1) = (i : Int) := by rw [show ((i + 1 : Nat) : Int) - 1 = (i : Int) by omega]; exact wrap_nat (by omega)
    have w1 := wrap_succ (show i + 1 < 9223372036854775807 by omega)
    have s1 := colN_short hb hj (List.getElem_mem h1)
    have s2 := colN_short hb hj (List.getElem_mem h2)
    have hc := @Xq70_call (colN b[i].2 j) (colN b[i + 1].2 j) s2 s1
    rw [srtB_front, colAt_get h1, colAt_get h2]
    have ih' := ih (i + 1) (by omega)
    by_cases h : 0 < cmpV (colN b[i].2 j) (colN b[i + 1].2 j)
    · have h' : decide (cmpV (colN b[i].2 j) (colN b[i + 1].2 j) ≤ 0) = false := decide_eq_false (by omega)
      rw [h', Bool.false_and]
      simp (maxSteps := 2000000) only [go_sem, h1, h2, a1, a2, hw, hc, h, run_unfold Xq39.c0.eq_1, Xq39.k0]
      done
    · have h' : decide (cmpV (colN b[i].2 j) (colN b[i + 1].2 j) ≤ 0) = true := decide_eq_true (by omega)
      rw [h', Bool.true_and]
      simp (maxSteps := 2000000) only [go_sem, h1, h2, a1, a2, hw, hc, h, run_unfold Xq39.c0.eq_1, Xq39.k0, w1]
      exact ih'
theorem Xq39_spec {f : SlF} {b : Rows} {j : Int} (hb : RowsFit b) (hj : AllCol b j) {lv : List Nat} {σ : Sto} {R : Post} : Cw T true i_Xq39 [rowsA f b, .int .i64 j] lv σ R ↔ R (.bool (srt b j)) σ := by
  refine cw_intro T_Xq39 (by simp only [go_sem]) (by simp) ?_; rw [run_unfold Xq39.main.eq_1]
  simp (maxSteps := 2000000) only [go_sem]
  by_cases h0 : b.length = 0
  · have : b = [] := List.eq_nil_of_length_eq_zero h0
    subst this
    rw [run_round, run_unfold Xq39.b0.eq_1]
    simp (maxSteps := 2000000) only [go_sem, run_unfold Xq39.c0.eq_1, Xq39.k0]
    rfl
  · exact Xq39_loop (f := f) hb hj (b.length - 1) 0 (by omega)
@[go_sem] theorem Xq39_call {f : SlF} {b : Rows} {j : Int} (hb : RowsFit b) (hj : AllCol b j) {Q : Post3} {k : List Item} {os : List AOper} {d : Option Nat} {e : Env} {σ : Sto} : CallK T Q k os d e σ true i_Xq39 [rowsA f b, .int .i64 j] ↔ Run T Q (.ops os :: k) (put e d (.bool (srt b j))) σ := Xq39_spec hb hj


theorem Xq21_spec {f g : SlF} {x y : List Val} {j : Int} (hx : 0 ≤ j ∧ j < x.length) (hy : 0 ≤ j ∧ j < y.length) {lv : List Nat} {σ : Sto} {R : Post} : Cw T true i_Xq21 [rowA f x, rowA g y, .fptr [.int .i64 j]] lv σ R ↔ R (.int .i64 (cmpV (colN x j) (colN y j))) σ := by
  refine cw_intro T_Xq21 (by simp only [go_sem]) (by simp) ?_; rw [run_unfold Xq21.main.eq_1]
  have a1 := fun {σ : Sto} => @iaddrV_int' 3 f Val (fun v => .agg [.int .i64 v.k, .int .i64 v.i, .str v.s]) x .i64 j σ hx
  have a2 := fun {σ : Sto} => @iaddrV_int' 3 g Val (fun v => .agg [.int .i64 v.k, .int .i64 v.i, .str v.s]) y .i64 j σ hy
  simp only [colN_get hx] at a1
  simp only [colN_get hy] at a2
  simp (maxSteps := 2000000) only [go_sem, a1, a2, Xq51_call]
  done
@[go_sem] theorem Xq21_call {f g : SlF} {x y : List Val} {j : Int} (hx : 0 ≤ j ∧ j < x.length) (hy : 0 ≤ j ∧ j < y.length) {Q : Post3} {k : List Item} {os : List AOper} {d : Option Nat} {e : Env} {σ : Sto} : CallK T Q k os d e σ true i_Xq21 [rowA f x, rowA g y, .fptr [.int .i64 j]] ↔ Run T Q (.ops os :: k) (put e d (.int .i64 (cmpV (colN x j) (colN y j)))) σ := Xq21_spec hx hy

theorem Xq31_spec {j : Int} {lv : List Nat} {σ : Sto} {R : Post} : Cw T true i_Xq31 [.int .i64 j] lv σ R ↔ R (.clo (.func i_Xq21) [] [.fptr [.int .i64 j]]) σ := by
  refine cw_intro T_Xq31 (by simp only [go_sem]) (by simp) ?_; rw [run_unfold Xq31.main.eq_1]
  have hs := snap_clo1 (n := 61) (o := 0) (gen := 1) (nl := false) (cs := [.int .i64 j]) (g := .func i_Xq21) (σ := [.cells false [.int .i64 j]]) rfl rfl (by simp (maxSteps := 2000000) only [go_sem])
  simp (maxSteps := 2000000) only [go_sem, hs]
  done
@[go_sem] theorem Xq31_call {j : Int} {Q : Post3} {k : List Item} {os : List AOper} {d : Option Nat} {e : Env} {σ : Sto} : CallK T Q k os d e σ true i_Xq31 [.int .i64 j] ↔ Run T Q (.ops os :: k) (put e d (.clo (.func i_Xq21) [] [.fptr [.int .i64 j]])) σ := Xq31_spec

theorem IsSorted_loop {f : SlF} {b : Rows} {j : Int} (hb : RowsFit b) (hj : AllCol b j) : ∀ i, i < b.length →
    Run T (Res [.tmp 4] (.bool (srtB b j 0 i))) (.inLoop Xq7.b0 :: Xq7.k0) (mkE 25 [(0, rowsA f b), (1, .clo (.func i_Xq21) [] [.fptr [.int .i64 j]]), (5, .int .i64 (i : Int))]) [] := by
  have hb1 := hb.1
  intro i
  induction i with
  | zero =>
    intro hi
    rw [run_round, run_unfold Xq7.b0.eq_1]
    simp (maxSteps := 2000000) only [go_sem, run_unfold Xq7.c0.eq_1, run_unfold Xq7.c1.eq_1, Xq7.k0, Int.lt_irrefl]
    rfl
  | succ i ih =>
    intro h1
    rw [run_round, run_unfold Xq7.b0.eq_1]
    have h2 : i < b.length := by omega
    have hj1 := hj _ (List.getElem_mem h1)
    have hj2 := hj _ (List.getElem_mem h2)
    have hw : IntKind.i64.wrap (((i + 1 : Nat) : Int) - 1) = (i : Int) := by rw [show ((i + 1 : Nat) : Int) - 1 = (i : Int) by omega]; exact wrap_nat (by omega)
    have h0 : (0 : Int) < ((i + 1 : Nat) : Int) := by omega
    have hc := @Xq21_call b[i + 1].1 b[i].1 b[i + 1].2 b[i].2 j hj1 hj2
    rw [srtB_back, Nat.zero_add, colAt_get h1, colAt_get h2]
    have ih' := ih h2
    have an := cmpV_anti (colN b[i].2 j) (colN b[i + 1].2 j)
    by_cases h : cmpV (colN b[i + 1].2 j) (colN b[i].2 j) < 0
    · have h' : decide (cmpV (colN b[i].2 j) (colN b[i + 1].2 j) ≤ 0) = false := decide_eq_false (by omega)
      rw [h', Bool.and_false]
      simp (maxSteps := 2000000) only [go_sem, h0, h1, h2, hw, hc, h, run_unfold Xq7.c0.eq_1, run_unfold Xq7.c1.eq_1, Xq7.k0]
      done
    · have h' : decide (cmpV (colN b[i].2 j) (colN b[i + 1].2 j) ≤ 0) = true := decide_eq_true (by omega)
      rw [h', Bool.and_true]
      simp (maxSteps := 2000000) only [go_sem, h0, h1, h2, hw, hc, h, run_unfold Xq7.c0.eq_1, run_unfold Xq7.c1.eq_1, Xq7.k0]
      exact ih'
theorem Xq7_spec {f : SlF} {b : Rows} {j : Int} (hb : RowsFit b) (hj : AllCol b j) {lv : List Nat} {σ : Sto} {R : Post} : Cw T true i_Xq7 [rowsA f b, .clo (.func i_Xq21) [] [.fptr [.int .i64 j]]] lv σ R ↔ R (.bool (srt b j)) σ := by
  refine cw_intro T_Xq7 (by simp only [go_sem]) (by simp) ?_; rw [run_unfold Xq7.main.eq_1]
  have hb1 := hb.1
  by_cases h0 : b.length = 0
  · have : b = [] := List.eq_nil_of_length_eq_zero h0
    subst this
    have hm : IntKind.i64.wrap (0 - 1) = -1 := by decide
    simp (maxSteps := 2000000) only [go_sem, hm]
    rw [run_round, run_unfold Xq7.b0.eq_1]
    simp (maxSteps := 2000000) only [go_sem, run_unfold Xq7.c0.eq_1, run_unfold Xq7.c1.eq_1, Xq7.k0, show ¬ (0 : Int) < -1 by decide]
    rfl
  · have hw : IntKind.i64.wrap ((b.length : Int) - 1) = ((b.length - 1 : Nat) : Int) := by rw [wrap_i64 (by omega) (by omega)]; omega
    simp (maxSteps := 2000000) only [go_sem, hw]
    exact IsSorted_loop (f := f) hb hj (b.length - 1) (by omega)
@[go_sem] theorem Xq7_call {f : SlF} {b : Rows} {j : Int} (hb : RowsFit b) (hj : AllCol b j) {Q : Post3} {k : List Item} {os : List AOper} {d : Option Nat} {e : Env} {σ : Sto} : CallK T Q k os d e σ true i_Xq7 [rowsA f b, .clo (.func i_Xq21) [] [.fptr [.int .i64 j]]] ↔ Run T Q (.ops os :: k) (put e d (.bool (srt b j))) σ := Xq7_spec hb hj

end Go.Abs
/- Chapter 40: sorted lists of rows; swaps. No program in sight. -/
set_option linter.unusedSimpArgs false
set_option linter.unusedVariables false
set_option maxRecDepth 100000
set_option maxHeartbeats 4000000
namespace Go.Abs
open Go

theorem cmpR_anti : ∀ a b : List Val, cmpR b a = - cmpR a b
 | [], [] => rfl
 | [], _ :: _ => rfl
 | _ :: _, [] => rfl
 | a :: x, b :: y => by
  have h := cmpV_anti a b
  have ih := cmpR_anti x y
  simp only [cmpR]
  by_cases h0 : cmpV a b = 0
  ·rw [if_pos h0, if_pos (by omega)]; exact ih
  ·rw [if_neg h0, if_neg (by omega)]; exact h
theorem cmpR_trans : ∀ {a b c : List Val}, cmpR a b ≤ 0 → cmpR b c ≤ 0 → cmpR a c ≤ 0
 | [], _, [], _, _ => by simp [cmpR]
 | [], _, _ :: _, _, _ => by simp [cmpR]
 | a :: x, [], _, h, _ => by simp [cmpR] at h
 | a :: x, b :: y, [], _, h => by simp [cmpR] at h
 | a :: x, b :: y, c :: z, h1, h2 => by
  simp only [cmpR] at h1 h2 ⊢
  by_cases e1 : cmpV a b = 0
  ·have := cmpV_zero.1 e1
   subst this
   rw [if_pos e1] at h1
   by_cases e2 : cmpV a c = 0
   ·rw [if_pos e2] at h2 ⊢
    exact cmpR_trans h1 h2
   ·rw [if_neg e2] at h2 ⊢; exact h2
  ·rw [if_neg e1] at h1
   by_cases e2 : cmpV b c = 0
   ·have := cmpV_zero.1 e2
    subst this
    rw [if_neg e1]; exact h1
   ·rw [if_neg e2] at h2
    have h := cmpV_trans h1 h2
    by_cases e3 : cmpV a c = 0
    ·exact absurd (h.2 e3).1 e1
    ·rw [if_neg e3]; exact h.1
theorem cmpR_tot {a b : List Val} (h : ¬ cmpR a b < 0) : cmpR b a ≤ 0 := by have := cmpR_anti a b; omega
def SrtR (D : List (List Val)) : Prop := D.Pairwise fun a b => cmpR a b ≤ 0
theorem srtR_unique {a b : List (List Val)} (ha : SrtR a) (hb : SrtR b) (h : a.Perm b) : a = b :=
 List.Perm.eq_of_pairwise (fun x y _ _ h1 h2 => cmpR_zero.1 (by have := cmpR_anti x y; omega)) ha hb h
theorem srtR_app {a b : List (List Val)} (ha : SrtR a) (hb : SrtR b) (h : ∀ x ∈ a, ∀ y ∈ b, cmpR x y ≤ 0) : SrtR (a ++ b) := List.pairwise_append.2 ⟨ha, hb, h⟩
theorem srtR_left {a b : List (List Val)} (h : SrtR (a ++ b)) : SrtR a := (List.pairwise_append.1 h).1
theorem srtR_right {a b : List (List Val)} (h : SrtR (a ++ b)) : SrtR b := (List.pairwise_append.1 h).2.1
theorem srtR_cross {a b : List (List Val)} (h : SrtR (a ++ b)) : ∀ x ∈ a, ∀ y ∈ b, cmpR x y ≤ 0 := (List.pairwise_append.1 h).2.2
theorem srtR_get {D : List (List Val)} (h : SrtR D) {i j : Nat} (hi : i < D.length) (hj : j < D.length) (hij : i ≤ j) : cmpR D[i] D[j] ≤ 0 := by
 rcases Nat.lt_or_eq_of_le hij with h1 | rfl
 ·exact List.pairwise_iff_getElem.1 h i j hi hj h1
 ·rw [cmpR_zero.2 rfl]; exact Int.le_refl _
theorem srtR_one (x : List Val) : SrtR [x] := List.pairwise_singleton ..
theorem srtR_nil : SrtR [] := List.Pairwise.nil

theorem get_mid {α : Type} {P S : List α} {x : α} {i : Nat} (hi : i = P.length) : (P ++ x :: S)[i]? = some x := by
 subst hi; simp
theorem set_mid {α : Type} {P S : List α} {x y : α} {i : Nat} (hi : i = P.length) : (P ++ x :: S).set i y = P ++ y :: S := by
 subst hi
 rw [List.set_append_right _ _ (Nat.le_refl _), Nat.sub_self, List.set_cons_zero]
theorem get_of {α : Type} {l : List α} {i : Nat} {x : α} (h : l[i]? = some x) : ∃ hi : i < l.length, l[i] = x := List.getElem?_eq_some_iff.1 h
theorem two_get {α : Type} {P M S : List α} {x y : α} {i j : Nat} (hi : i = P.length) (hj : j = P.length + 1 + M.length) :
  (P ++ x :: (M ++ y :: S))[i]? = some x ∧ (P ++ x :: (M ++ y :: S))[j]? = some y ∧ ((P ++ x :: (M ++ y :: S)).set i y).set j x = P ++ y :: (M ++ x :: S) ∧ ((P ++ x :: (M ++ y :: S)).set j x).set i y = P ++ y :: (M ++ x :: S) := by
 have e : ∀ u w : α, P ++ u :: (M ++ w :: S) = (P ++ u :: M) ++ w :: S := by simp
 have hj' : ∀ u : α, j = (P ++ u :: M).length := by intro u; simp; omega
 refine ⟨get_mid hi, by rw [e]; exact get_mid (hj' x), ?_, ?_⟩
 ·rw [set_mid hi, e, set_mid (hj' y), ← e]
 ·rw [e, set_mid (hj' x), ← e, set_mid hi]
theorem cut_at {α : Type} {l : List α} {k : Nat} (h : k ≤ l.length) : ∃ a b, l = a ++ b ∧ a.length = k := ⟨l.take k, l.drop k, (List.take_append_drop k l).symm, by rw [List.length_take]; omega⟩
theorem cut_end {α : Type} {l : List α} {k : Nat} (h : k ≤ l.length) : ∃ a b, l = a ++ b ∧ b.length = k := ⟨l.take (l.length - k), l.drop (l.length - k), (List.take_append_drop _ l).symm, by rw [List.length_drop]; omega⟩

inductive Ch (s : Nat) : List (List Val) → Prop
 | last {l : List (List Val)} : l.length ≤ s → SrtR l → Ch s l
 | cons {l r : List (List Val)} : l.length = s → SrtR l → Ch s r → Ch s (l ++ r)
theorem Ch.all {s : Nat} {l : List (List Val)} (h : Ch s l) (hl : l.length ≤ s) : SrtR l := by
 cases h with
 | last _ h => exact h
 | @cons a r h1 h2 _ =>
  have : r = [] := List.eq_nil_of_length_eq_zero (by rw [List.length_append] at hl; omega)
  subst this
  rw [List.append_nil]; exact h2
theorem Ch.two {s : Nat} {l : List (List Val)} (h : Ch s l) (hl : 2 * s ≤ l.length) : ∃ X Y R, l = X ++ (Y ++ R) ∧ X.length = s ∧ Y.length = s ∧ SrtR X ∧ SrtR Y ∧ Ch s R := by
 by_cases hs : s = 0
 ·subst hs
  exact ⟨[], [], l, rfl, rfl, rfl, srtR_nil, srtR_nil, h⟩
 ·cases h with
  | last h1 _ => omega
  | @cons X r h1 h2 h3 =>
   rw [List.length_append] at hl
   cases h3 with
   | last h4 h5 => exact ⟨X, r, [], by rw [List.append_nil], h1, by omega, h2, h5, .last (Nat.zero_le _) srtR_nil⟩
   | @cons Y R h4 h5 h6 => exact ⟨X, Y, R, rfl, h1, h4, h2, h5, h6⟩
theorem Ch.rest {s : Nat} {l : List (List Val)} (h : Ch s l) (hl : s < l.length) (h2 : l.length < 2 * s) : ∃ X Y, l = X ++ Y ∧ X.length = s ∧ SrtR X ∧ SrtR Y := by
 cases h with
 | last h1 _ => omega
 | @cons X r h1 h3 h4 =>
  rw [List.length_append] at hl h2
  exact ⟨X, r, rfl, h1, h3, h4.all (by omega)⟩
end Go.Abs
/- Walks of chapter 40: how query.Sort compares rows. -/
set_option linter.unusedSimpArgs false
set_option linter.unusedVariables false
set_option maxRecDepth 100000
set_option maxHeartbeats 4000000
namespace Go.Abs
open Go
attribute [local go_sem_proc] Nat.reduceLT Nat.reduceEqDiff Nat.reduceLeDiff Nat.reduceAdd Nat.reduceSub Nat.reduceMul Int.reduceLT Int.reduceLE Int.reduceEq Int.reduceNeg
attribute [local go_sem_proc ↓] reduceIte

theorem Xq17_spec {f : SlF} {x : List Val} {lv : List Nat} {σ : Sto} {R : Post} : Cw T true i_Xq17 [rowA f x, .nils] lv σ R ↔ R (.nils) σ := by
 refine cw_intro T_Xq17 (by simp only [go_sem]) (by simp) ?_; rw [run_unfold Xq17.main.eq_1]
 simp (maxSteps := 2000000) only [go_sem]
 rw [run_round, run_unfold Xq17.b0.eq_1]
 simp (maxSteps := 2000000) only [go_sem, run_unfold Xq17.c0.eq_1, run_unfold Xq17.c1.eq_1, run_unfold Xq17.c2.eq_1, Xq17.k0, Int.lt_irrefl]
 rfl
@[go_sem] theorem Xq17_call {f : SlF} {x : List Val} {Q : Post3} {k : List Item} {os : List AOper} {d : Option Nat} {e : Env} {σ : Sto} : CallK T Q k os d e σ true i_Xq17 [rowA f x, .nils] ↔ Run T Q (.ops os :: k) (put e d (.nils)) σ := Xq17_spec

theorem cmpFunc_loop {f g : SlF} {x y : List Val} (hx : x.length ≤ 1000000) : ∀ i, i ≤ x.length → i ≤ y.length →
  Run T (Res [.tmp 6] (.int .i64 (cmpR (x.drop i) (y.drop i)))) (.inLoop Xq8.b0 :: Xq8.k0) (mkE 39 [(0, rowA f x), (1, rowA g y), (2, .clo (.func i_Xq51) [] []), (11, rowA f x), (12, .int .i64 x.length), (13, .int .i64 (i : Int))]) [] := by
 refine up_ind (fun hy => ?_) fun i hi ih hy => ?_
 ·rw [run_round, run_unfold Xq8.b0.eq_1]
  rw [List.drop_length]
  by_cases h : x.length < y.length
  ·rw [List.drop_eq_getElem_cons h]
   simp (maxSteps := 2000000) only [go_sem, run_unfold Xq8.c0.eq_1, run_unfold Xq8.c1.eq_1, Xq8.k0, Int.lt_irrefl, h, cmpR]
  ·rw [List.drop_eq_nil_of_le (by omega)]
   simp (maxSteps := 2000000) only [go_sem, run_unfold Xq8.c0.eq_1, run_unfold Xq8.c1.eq_1, Xq8.k0, Int.lt_irrefl, h, cmpR]
 ·have w1 := wrap_succ (show i < 9223372036854775807 by omega)
  rw [List.drop_eq_getElem_cons hi]
  by_cases h : i < y.length
  ·rw [List.drop_eq_getElem_cons h, cmpR]
   have h' : ¬ ((y.length : Nat) : Int) ≤ (i : Int) := by omega
   rw [run_round, run_unfold Xq8.b0.eq_1]
   by_cases hz : cmpV x[i] y[i] = 0
   ·rw [if_pos hz]
    simp (maxSteps := 2000000) only [go_sem, hi, h, h', Xq51_call, hz, w1, run_unfold Xq8.c0.eq_1, run_unfold Xq8.c1.eq_1, Xq8.k0]
    exact ih h
   ·rw [if_neg hz]
    simp (maxSteps := 2000000) only [go_sem, hi, h, h', Xq51_call, hz, w1, run_unfold Xq8.c0.eq_1, run_unfold Xq8.c1.eq_1, Xq8.k0]
  ·have e : y.drop i = [] := List.drop_eq_nil_of_le (by omega)
   have h' : ((y.length : Nat) : Int) ≤ (i : Int) := by omega
   rw [e, cmpR]
   rw [run_round, run_unfold Xq8.b0.eq_1]
   simp (maxSteps := 2000000) only [go_sem, hi, h, h', run_unfold Xq8.c0.eq_1, run_unfold Xq8.c1.eq_1, Xq8.k0]
theorem Xq8_spec {f g : SlF} {x y : List Val} (hx : x.length ≤ 1000000) {lv : List Nat} {σ : Sto} {R : Post} : Cw T true i_Xq8 [rowA f x, rowA g y, .clo (.func i_Xq51) [] []] lv σ R ↔ R (.int .i64 (cmpR x y)) σ := by
 refine cw_intro T_Xq8 (by simp only [go_sem]) (by simp) ?_; rw [run_unfold Xq8.main.eq_1]
 have hl := cmpFunc_loop (f := f) (g := g) (y := y) hx 0 (by omega) (by omega)
 simp only [List.drop_zero] at hl
 simp (maxSteps := 2000000) only [go_sem]
 exact hl
@[go_sem] theorem Xq8_call {f g : SlF} {x y : List Val} (hx : x.length ≤ 1000000) {Q : Post3} {k : List Item} {os : List AOper} {d : Option Nat} {e : Env} {σ : Sto} : CallK T Q k os d e σ true i_Xq8 [rowA f x, rowA g y, .clo (.func i_Xq51) [] []] ↔ Run T Q (.ops os :: k) (put e d (.int .i64 (cmpR x y))) σ := Xq8_spec hx

theorem Xq23_spec {f g : SlF} {x y : List Val} (hx : x.length ≤ 1000000) {lv : List Nat} {σ : Sto} {R : Post} : Cw T true i_Xq23 [rowA f x, rowA g y] lv σ R ↔ R (.int .i64 (cmpR x y)) σ := by
 refine cw_intro T_Xq23 (by simp only [go_sem]) (by simp) ?_; rw [run_unfold Xq23.main.eq_1]
 simp (maxSteps := 2000000) only [go_sem, Xq8_call hx]
@[go_sem] theorem Xq23_call {f g : SlF} {x y : List Val} (hx : x.length ≤ 1000000) {Q : Post3} {k : List Item} {os : List AOper} {d : Option Nat} {e : Env} {σ : Sto} : CallK T Q k os d e σ true i_Xq23 [rowA f x, rowA g y] ↔ Run T Q (.ops os :: k) (put e d (.int .i64 (cmpR x y))) σ := Xq23_spec hx

theorem Xq41_spec {c : Int} {lv : List Nat} {σ : Sto} {R : Post} : Cw T true i_Xq41 [.list 1 [.int .i64 0, .int .i64 c]] lv σ R ↔ R (.int .i64 c) σ := by
 refine cw_intro T_Xq41 (by simp only [go_sem]) (by simp) ?_; rw [run_unfold Xq41.main.eq_1]
 have i0 := fun {σ : Sto} => iaddrV_list (σ := σ) (k := 1) (xs := [.int .i64 0, .int .i64 c]) (kd := .i64) (i := 0) (v := .int .i64 0) rfl
 have i1 := fun {σ : Sto} => iaddrV_list (σ := σ) (k := 1) (xs := [.int .i64 0, .int .i64 c]) (kd := .i64) (i := 1) (v := .int .i64 c) rfl
 simp only [Int.natCast_zero, Int.cast_ofNat_Int, Int.natCast_one, Int.ofNat_zero] at i0 i1
 have w1 : IntKind.i64.wrap (0 + 1) = 1 := by decide
 have w2 : IntKind.i64.wrap (1 + 1) = 2 := by decide
 simp (maxSteps := 2000000) only [go_sem]
 rw [run_round, run_unfold Xq41.b0.eq_1]
 simp (maxSteps := 2000000) only [go_sem, run_unfold Xq41.c0.eq_1, Xq41.k0, i0, i1, w1, w2]
 rw [run_round, run_unfold Xq41.b0.eq_1]
 by_cases h : c = 0
 ·subst h
  simp (maxSteps := 2000000) only [go_sem, run_unfold Xq41.c0.eq_1, Xq41.k0, i0, i1, w1, w2]
  rw [run_round, run_unfold Xq41.b0.eq_1]
  simp (maxSteps := 2000000) only [go_sem, run_unfold Xq41.c0.eq_1, Xq41.k0]
 ·simp (maxSteps := 2000000) only [go_sem, run_unfold Xq41.c0.eq_1, Xq41.k0, h, i0, i1, w1, w2]
@[go_sem] theorem Xq41_call {c : Int} {Q : Post3} {k : List Item} {os : List AOper} {d : Option Nat} {e : Env} {σ : Sto} : CallK T Q k os d e σ true i_Xq41 [.list 1 [.int .i64 0, .int .i64 c]] ↔ Run T Q (.ops os :: k) (put e d (.int .i64 c)) σ := Xq41_spec

theorem nil_row : AVal.nils = rowA .nil [] := rfl
theorem Xq25_spec {x y : List Val} (hx : x.length ≤ 1000000) {lv : List Nat} {σ : Sto} {R : Post} : Cw T true i_Xq25 [rowA .lst x, rowA .lst y, .fptr [.nils]] lv σ R ↔ R (.int .i64 (cmpR x y)) σ := by
 refine cw_intro T_Xq25 (by simp only [go_sem]) (by simp) ?_; rw [run_unfold Xq25.main.eq_1]
 have c0 := fun {Q : Post3} {k : List Item} {os : List AOper} {d : Option Nat} {e : Env} {σ : Sto} => Xq23_call (f := .nil) (g := .nil) (x := []) (y := []) (by simp) (Q := Q) (k := k) (os := os) (d := d) (e := e) (σ := σ)
 rw [← nil_row, cmpR] at c0
 simp (maxSteps := 2000000) only [go_sem, c0, Xq23_call hx]
@[go_sem] theorem Xq25_call {x y : List Val} (hx : x.length ≤ 1000000) {Q : Post3} {k : List Item} {os : List AOper} {d : Option Nat} {e : Env} {σ : Sto} : CallK T Q k os d e σ true i_Xq25 [rowA .lst x, rowA .lst y, .fptr [.nils]] ↔ Run T Q (.ops os :: k) (put e d (.int .i64 (cmpR x y))) σ := Xq25_spec hx

abbrev ordC : AVal := .clo (.func i_Xq25) [] [.fptr [.nils]]
theorem Xq38_spec  {lv : List Nat} {σ : Sto} {R : Post} : Cw T true i_Xq38 [.nils] lv σ R ↔ R (ordC) σ := by
 refine cw_intro T_Xq38 (by simp only [go_sem]) (by simp) ?_; rw [run_unfold Xq38.main.eq_1]
 simp (maxSteps := 2000000) only [go_sem]
 rfl
@[go_sem] theorem Xq38_call  {Q : Post3} {k : List Item} {os : List AOper} {d : Option Nat} {e : Env} {σ : Sto} : CallK T Q k os d e σ true i_Xq38 [.nils] ↔ Run T Q (.ops os :: k) (put e d (ordC)) σ := Xq38_spec

end Go.Abs
/- Walks of chapter 40: swapping ranges of rows and rotating them, as slices.SortStableFunc does. -/
set_option linter.unusedSimpArgs false
set_option linter.unusedVariables false
set_option maxRecDepth 100000
set_option maxHeartbeats 4000000
namespace Go.Abs
open Go
attribute [local go_sem_proc] Nat.reduceLT Nat.reduceEqDiff Nat.reduceLeDiff Nat.reduceAdd Nat.reduceSub Nat.reduceMul Int.reduceLT Int.reduceLE Int.reduceEq Int.reduceNeg
attribute [local go_sem_proc ↓] reduceIte

abbrev zS (D : List (List Val)) : Sto := [.cells false (D.map fun r => rowA .lst r)]
abbrev dat (n : Nat) : AVal := .ref 0 n 0 n 1

theorem put1 {D : List (List Val)} {k : Nat} {y : List Val} (h : k < D.length) : List.take k (D.map fun r => rowA .lst r) ++ [rowA .lst y] ++ List.drop (k + 1) (D.map fun r => rowA .lst r) = (D.set k y).map fun r => rowA .lst r := by
 rw [List.map_set, List.set_eq_take_append_cons_drop, if_pos (by rw [List.length_map]; exact h), List.append_assoc]
 rfl
theorem swap_loop {n a b k : Nat} {F : List (List Val)} {R : Post} (hn : n ≤ 100000) (next : R (.tup []) (zS F)) : ∀ (A B : List (List Val)) (i : Nat) (P M S : List (List Val)), A.length = B.length → i + A.length = k → P.length = a + i → P.length + A.length + M.length = b + i →
  P.length + A.length + M.length + B.length + S.length = n → F = P ++ B ++ M ++ A ++ S →
  Run T (Ret [] R) (.inLoop Xq1.b0 :: Xq1.k0) (mkE 38 [(0, dat n), (1, .int .i64 a), (2, .int .i64 b), (3, .int .i64 k), (10, .int .i64 i)]) (zS (P ++ A ++ M ++ B ++ S)) := by
 intro A
 induction A with
 | nil =>
  intro B i P M S hAB hik hP hb hl hF
  have hB : B = [] := List.eq_nil_of_length_eq_zero hAB.symm
  subst hB
  subst hF
  simp only [List.length_nil, Nat.add_zero] at hik
  subst hik
  rw [run_round, run_unfold Xq1.b0.eq_1]
  simp (maxSteps := 2000000) only [go_sem, run_unfold Xq1.c0.eq_1, Xq1.k0, Int.lt_irrefl]
  simp only [List.append_nil] at next
  exact next
 | cons x A ih =>
  intro B i P M S hAB hik hP hb hl hF
  cases B with
  | nil => simp at hAB
  | cons y B =>
   simp only [List.length_cons] at hAB hik hb hl
   have e1 : P ++ x :: A ++ M ++ y :: B ++ S = P ++ x :: ((A ++ M) ++ y :: (B ++ S)) := by simp
   have e2 : (P ++ [y]) ++ A ++ (M ++ [x]) ++ B ++ S = P ++ y :: ((A ++ M) ++ x :: (B ++ S)) := by simp
   have ih' := ih B (i + 1) (P ++ [y]) (M ++ [x]) S (by omega) (by omega) (by simp; omega) (by simp; omega) (by simp; omega) (by rw [hF]; simp)
   rw [e1]
   rw [e2] at ih'
   obtain ⟨g1, g2, g3, g4⟩ := two_get (P := P) (M := A ++ M) (S := B ++ S) (x := x) (y := y) (i := a + i) (j := b + i) (by omega) (by simp; omega)
   have hDl : (P ++ x :: ((A ++ M) ++ y :: (B ++ S))).length = n := by simp; omega
   rw [← g3] at ih'
   generalize P ++ x :: ((A ++ M) ++ y :: (B ++ S)) = D at *
   obtain ⟨h1, g1⟩ := get_of g1
   obtain ⟨h2, g2⟩ := get_of g2
   have w1 : IntKind.i64.wrap ((a : Int) + (i : Int)) = ((a + i : Nat) : Int) := by rw [wrap_i64 (by omega) (by omega)]; omega
   have w2 : IntKind.i64.wrap ((b : Int) + (i : Int)) = ((b + i : Nat) : Int) := by rw [wrap_i64 (by omega) (by omega)]; omega
   have w3 := wrap_succ (show i < 9223372036854775807 by omega)
   have hlt : ((i : Nat) : Int) < (k : Int) := by omega
   have l1 : a + i < n := by omega
   have l2 : b + i < n := by omega
   rw [run_round, run_unfold Xq1.b0.eq_1]
   have p1 := put1 (y := y) h1
   have p2 := put1 (D := D.set (a + i) y) (k := b + i) (y := x) (by rw [List.length_set]; exact h2)
   simp (maxSteps := 2000000) only [go_sem, hlt, w1, w2, hDl, h1, h2, g1, g2, l1, l2, w3, show a + i + 1 ≤ n by omega, show b + i + 1 ≤ n by omega, p1, p2, List.length_set, List.length_map, run_unfold Xq1.c0.eq_1, Xq1.k0]
   exact ih'
theorem swapRange {n a b k : Nat} {P A M B S : List (List Val)} {R : Post} (hn : n ≤ 100000) (hA : A.length = k) (hB : B.length = k) (hP : P.length = a) (hb : a + k + M.length = b) (hl : b + k + S.length = n) (next : R (.tup []) (zS (P ++ B ++ M ++ A ++ S))) :
  Cw T false i_Xq1 [dat n, .int .i64 a, .int .i64 b, .int .i64 k, ordC] [] (zS (P ++ A ++ M ++ B ++ S)) R := by
 rw [cw_enter T_Xq1 (by simp), run_unfold Xq1.main.eq_1]
 have hl := swap_loop (n := n) (a := a) (b := b) (k := k) hn next A B 0 P M S (by omega) (by omega) (by omega) (by omega) (by omega) rfl
 simp (maxSteps := 2000000) only [go_sem]
 exact hl
theorem swapRange_call {n a b k : Nat} {P A M B S D : List (List Val)} {Q : Post3} {kk : List Item} {os : List AOper} {d : Option Nat} {e : Env} (hn : n ≤ 100000) (hA : A.length = k) (hB : B.length = k) (hP : P.length = a) (hb : a + k + M.length = b) (hl : b + k + S.length = n) (hD : D = P ++ A ++ M ++ B ++ S) (next : Run T Q (.ops os :: kk) (put e d (.tup [])) (zS (P ++ B ++ M ++ A ++ S))) :
  CallK T Q kk os d e (zS D) false i_Xq1 [dat n, .int .i64 a, .int .i64 b, .int .i64 k, ordC] := by
 subst hD
 unfold CallK
 exact swapRange hn hA hB hP hb hl next

theorem rot_loop {n m : Nat} {F : List (List Val)} {R : Post} (hn : n ≤ 100000) (next : R (.tup []) (zS F)) : ∀ (w : Nat) (A B P S : List (List Val)), A.length + B.length ≤ w → 0 < A.length → 0 < B.length → P.length + A.length = m → m + B.length + S.length = n → F = P ++ (B ++ (A ++ S)) →
  Run T (Ret [] R) (.inLoop Xq5.b0 :: Xq5.k0) (mkE 58 [(0, dat n), (2, .int .i64 m), (4, ordC), (10, .int .i64 A.length), (11, .int .i64 B.length)]) (zS (P ++ (A ++ (B ++ S)))) := by
 intro w
 induction w with
 | zero => intro A B P S hw hA; omega
 | succ w ih =>
  intro A B P S hw hA hB hm hl hF
  have w1 : IntKind.i64.wrap ((m : Int) - (A.length : Int)) = ((P.length : Nat) : Int) := by rw [wrap_i64 (by omega) (by omega)]; omega
  by_cases he : A.length = B.length
  ·have he' : ((A.length : Nat) : Int) = (B.length : Int) := by omega
   rw [run_round, run_unfold Xq5.b0.eq_1]
   simp (maxSteps := 2000000) only [go_sem, he', w1, run_unfold Xq5.c0.eq_1, Xq5.k0]
   rw [he'] at w1
   simp (maxSteps := 2000000) only [go_sem, w1]
   refine swapRange_call (P := P) (A := A) (M := []) (B := B) (S := S) hn he rfl rfl (by simp; omega) (by omega) (by simp) ?_
   simp (maxSteps := 2000000) only [go_sem]
   have e : P ++ B ++ A ++ S = F := by rw [hF]; simp
   rw [e]
   exact next
  ·have he' : ¬ ((A.length : Nat) : Int) = (B.length : Int) := by omega
   by_cases hg : B.length < A.length
   ·have hg' : ((B.length : Nat) : Int) < (A.length : Int) := by omega
    obtain ⟨A1, A2, rfl, hA1⟩ := cut_at (l := A) (k := B.length) (by omega)
    rw [List.length_append] at *
    have w2 : IntKind.i64.wrap (((A1.length + A2.length : Nat) : Int) - (B.length : Int)) = ((A2.length : Nat) : Int) := by rw [wrap_i64 (by omega) (by omega)]; omega
    have ih' := ih A2 A1 (P ++ B) S (by omega) (by omega) (by omega) (by simp; omega) (by omega) (by rw [hF]; simp)
    rw [run_round, run_unfold Xq5.b0.eq_1]
    simp (maxSteps := 2000000) only [go_sem, he', hg', w1, List.length_append]
    refine swapRange_call (P := P) (A := A1) (M := A2) (B := B) (S := S) hn hA1 rfl rfl (by omega) (by omega) (by simp) ?_
    simp (maxSteps := 2000000) only [go_sem, w2, run_unfold Xq5.c0.eq_1, Xq5.k0]
    have e : P ++ B ++ A2 ++ A1 ++ S = P ++ B ++ (A2 ++ (A1 ++ S)) := by simp
    rw [e]
    rw [hA1] at ih'
    exact ⟨v_names_map (fun _ => sv_pure) _, ih'⟩
   ·have hg' : ¬ ((B.length : Nat) : Int) < (A.length : Int) := by omega
    obtain ⟨B1, B2, rfl, hB2⟩ := cut_end (l := B) (k := A.length) (by omega)
    rw [List.length_append] at *
    have w2 : IntKind.i64.wrap (((B1.length + B2.length : Nat) : Int) - (A.length : Int)) = ((B1.length : Nat) : Int) := by rw [wrap_i64 (by omega) (by omega)]; omega
    have w3 : IntKind.i64.wrap ((m : Int) + ((B1.length + B2.length : Nat) : Int)) = ((m + B1.length + B2.length : Nat) : Int) := by rw [wrap_i64 (by omega) (by omega)]; omega
    have w4 : IntKind.i64.wrap (((m + B1.length + B2.length : Nat) : Int) - (A.length : Int)) = ((m + B1.length : Nat) : Int) := by rw [wrap_i64 (by omega) (by omega)]; omega
    have ih' := ih B2 B1 P (A ++ S) (by omega) (by omega) (by omega) (by omega) (by simp; omega) (by rw [hF]; simp)
    rw [run_round, run_unfold Xq5.b0.eq_1]
    simp (maxSteps := 2000000) only [go_sem, he', hg', w1, w3, w4, List.length_append]
    refine swapRange_call (P := P) (A := A) (M := B1) (B := B2) (S := S) hn rfl hB2 rfl (by omega) (by omega) (by simp) ?_
    simp (maxSteps := 2000000) only [go_sem, w2, run_unfold Xq5.c0.eq_1, Xq5.k0]
    have e : P ++ B2 ++ B1 ++ A ++ S = P ++ (B2 ++ (B1 ++ (A ++ S))) := by simp
    rw [e]
    rw [hB2] at ih'
    exact ⟨v_names_map (fun _ => sv_pure) _, ih'⟩
theorem rotate {n a m b : Nat} {P A B S : List (List Val)} {R : Post} (hn : n ≤ 100000) (hA : 0 < A.length) (hB : 0 < B.length) (hP : P.length = a) (hm : a + A.length = m) (hb : m + B.length = b) (hl : b + S.length = n) (next : R (.tup []) (zS (P ++ (B ++ (A ++ S))))) :
  Cw T false i_Xq5 [dat n, .int .i64 a, .int .i64 m, .int .i64 b, ordC] [] (zS (P ++ (A ++ (B ++ S)))) R := by
 rw [cw_enter T_Xq5 (by simp), run_unfold Xq5.main.eq_1]
 have w1 : IntKind.i64.wrap ((m : Int) - (a : Int)) = ((A.length : Nat) : Int) := by rw [wrap_i64 (by omega) (by omega)]; omega
 have w2 : IntKind.i64.wrap ((b : Int) - (m : Int)) = ((B.length : Nat) : Int) := by rw [wrap_i64 (by omega) (by omega)]; omega
 have hl := rot_loop (m := m) hn next (A.length + B.length) A B P S (Nat.le_refl _) hA hB (by omega) (by omega) rfl
 simp (maxSteps := 2000000) only [go_sem, w1, w2]
 exact hl
theorem rotate_call {n a m b : Nat} {P A B S D : List (List Val)} {Q : Post3} {kk : List Item} {os : List AOper} {d : Option Nat} {e : Env} (hn : n ≤ 100000) (hA : 0 < A.length) (hB : 0 < B.length) (hP : P.length = a) (hm : a + A.length = m) (hb : m + B.length = b) (hl : b + S.length = n) (hD : D = P ++ (A ++ (B ++ S))) (next : Run T Q (.ops os :: kk) (put e d (.tup [])) (zS (P ++ (B ++ (A ++ S))))) :
  CallK T Q kk os d e (zS D) false i_Xq5 [dat n, .int .i64 a, .int .i64 m, .int .i64 b, ordC] := by
 subst hD
 unfold CallK
 exact rotate hn hA hB hP hm hb hl next
end Go.Abs
/- Walks of chapter 40: insertion sort of a part of a list of rows. -/
set_option linter.unusedSimpArgs false
set_option linter.unusedVariables false
set_option maxRecDepth 100000
set_option maxHeartbeats 4000000
namespace Go.Abs
open Go
attribute [local go_sem_proc] Nat.reduceLT Nat.reduceEqDiff Nat.reduceLeDiff Nat.reduceAdd Nat.reduceSub Nat.reduceMul Int.reduceLT Int.reduceLE Int.reduceEq Int.reduceNeg
attribute [local go_sem_proc ↓] reduceIte

theorem insI {n a b i : Nat} {x : List Val} {P S : List (List Val)} {Q : Post3} (hn : n ≤ 100000) (hx : x.length ≤ 1000000) (hP : P.length = a) (hi : i < n) {w : Nat} (hw : a + w = i) (hl : a + w + 1 + S.length = n) :
  ∀ (c : Nat) (L H : List (List Val)), L.length = c → SrtR (L ++ H) → L.length + H.length = w → (∀ h ∈ H, cmpR x h ≤ 0) →
  (∀ Z, SrtR Z → Z.Perm (x :: (L ++ H)) → Run T Q (.inLoop Xq0.b0 :: Xq0.k0) (mkE 53 [(0, dat n), (1, .int .i64 a), (2, .int .i64 b), (3, ordC), (8, .int .i64 ((i + 1 : Nat) : Int))]) (zS (P ++ (Z ++ S)))) →
  Run T Q (.inLoop Xq0.b1 :: Xq0.k1) (mkE 53 [(0, dat n), (1, .int .i64 a), (2, .int .i64 b), (3, ordC), (8, .int .i64 i), (9, .int .i64 ((a + L.length : Nat) : Int))]) (zS (P ++ (L ++ x :: (H ++ S)))) := by
 have w3 := wrap_succ (show i < 9223372036854775807 by omega)
 intro c
 induction c with
 | zero =>
  intro L H hc hs hlw hxh next
  have hL : L = [] := List.eq_nil_of_length_eq_zero hc
  subst hL
  have nx := next (x :: H) (List.pairwise_cons.2 ⟨hxh, hs⟩) (List.Perm.refl _)
  have e : P ++ (x :: H ++ S) = P ++ ([] ++ x :: (H ++ S)) := by simp
  rw [e] at nx
  rw [run_round, run_unfold Xq0.b1.eq_1]
  simp (maxSteps := 2000000) only [go_sem, run_unfold Xq0.c0.eq_1, run_unfold Xq0.c1.eq_1, Xq0.k0, Xq0.k1, List.length_nil, Nat.add_zero, Int.lt_irrefl, w3]
  exact nx
 | succ c ih =>
  intro L H hc hs hlw hxh next
  obtain ⟨L, Y, rfl, hY⟩ := cut_end (l := L) (k := 1) (by omega)
  obtain ⟨y, rfl⟩ : ∃ y, Y = [y] := by
   match Y, hY with
   | [y], _ => exact ⟨y, rfl⟩
  simp only [List.length_append, List.length_cons, List.length_nil] at hc hlw
  have hj : ((a : Nat) : Int) < ((a + (L.length + 1) : Nat) : Int) := by omega
  have w1 : IntKind.i64.wrap (((a + (L.length + 1) : Nat) : Int) - 1) = ((a + L.length : Nat) : Int) := by rw [wrap_i64 (by omega) (by omega)]; omega
  have e1 : P ++ (L ++ [y] ++ x :: (H ++ S)) = (P ++ L) ++ y :: ([] ++ x :: (H ++ S)) := by simp
  have e2 : P ++ (L ++ x :: (y :: H ++ S)) = (P ++ L) ++ x :: ([] ++ y :: (H ++ S)) := by simp
  obtain ⟨g1, g2, g3, g4⟩ := two_get (P := P ++ L) (M := []) (S := H ++ S) (x := y) (y := x) (i := a + L.length) (j := a + (L.length + 1)) (by simp; omega) (by simp; omega)
  have hDl : (P ++ (L ++ [y] ++ x :: (H ++ S))).length = n := by simp; omega
  by_cases hc0 : cmpR x y < 0
  ·have ih' := ih L (y :: H) (by omega) (by simpa using hs) (by simp; omega) (fun h hh => by
    rcases List.mem_cons.1 hh with rfl | hh
    ·omega
    ·exact hxh h hh) (fun Z h1 h2 => next Z h1 (by simpa using h2))
   rw [e1] at hDl ⊢
   rw [e2, ← g4] at ih'
   generalize (P ++ L) ++ y :: ([] ++ x :: (H ++ S)) = D at *
   obtain ⟨h1, g1⟩ := get_of g1
   obtain ⟨h2, g2⟩ := get_of g2
   have l1 : a + L.length < n := by omega
   have l2 : a + (L.length + 1) < n := by omega
   have p1 := put1 (y := y) h2
   have p2 := put1 (D := D.set (a + (L.length + 1)) y) (k := a + L.length) (y := x) (by rw [List.length_set]; exact h1)
   rw [run_round, run_unfold Xq0.b1.eq_1]
   simp (maxSteps := 2000000) only [go_sem, hj, w1, hDl, h1, h2, g1, g2, l1, l2, Xq25_call hx, hc0, show a + L.length + 1 ≤ n by omega, show a + (L.length + 1) + 1 ≤ n by omega, p1, p2, List.length_set, List.length_map, List.length_append, List.length_cons, List.length_nil, Nat.zero_add]
   exact ih'
  ·have hyx := cmpR_tot hc0
   have nx := next (L ++ y :: x :: H) ?_ ?_
   ·rw [e1] at hDl ⊢
    have e3 : P ++ (L ++ y :: x :: H ++ S) = (P ++ L) ++ y :: ([] ++ x :: (H ++ S)) := by simp
    rw [e3] at nx
    generalize (P ++ L) ++ y :: ([] ++ x :: (H ++ S)) = D at *
    obtain ⟨h1, g1⟩ := get_of g1
    obtain ⟨h2, g2⟩ := get_of g2
    have l1 : a + L.length < n := by omega
    have l2 : a + (L.length + 1) < n := by omega
    rw [run_round, run_unfold Xq0.b1.eq_1]
    simp (maxSteps := 2000000) only [go_sem, hj, w1, w3, hDl, h1, h2, g1, g2, l1, l2, Xq25_call hx, hc0, List.length_append, List.length_cons, List.length_nil, Nat.zero_add, run_unfold Xq0.c0.eq_1, run_unfold Xq0.c1.eq_1, Xq0.k0, Xq0.k1]
    exact nx
   ·have hs1 : SrtR (L ++ [y]) := srtR_left hs
    have e4 : L ++ y :: x :: H = (L ++ [y]) ++ (x :: H) := by simp
    rw [e4]
    refine srtR_app hs1 (List.pairwise_cons.2 ⟨hxh, srtR_right hs⟩) fun u hu v hv => ?_
    have huy : cmpR u y ≤ 0 := by
     rcases List.mem_append.1 hu with hu | hu
     ·exact srtR_cross hs1 u hu y (by simp)
     ·rw [List.mem_singleton.1 hu, cmpR_zero.2 rfl]; exact Int.le_refl _
    rcases List.mem_cons.1 hv with rfl | hv
    ·exact cmpR_trans huy hyx
    ·exact cmpR_trans (cmpR_trans huy hyx) (hxh v hv)
   ·have : (L ++ [y] ++ H) = L ++ (y :: H) := by simp
    rw [this]
    exact ((List.Perm.swap x y H).append_left L).trans List.perm_middle
theorem insO {n a b : Nat} {P S X : List (List Val)} {R : Post} (hn : n ≤ 100000) (hP : P.length = a) (hb : b + S.length = n) (hX : ∀ r ∈ X, r.length ≤ 1000000) (next : ∀ Z, SrtR Z → Z.Perm X → R (.tup []) (zS (P ++ (Z ++ S)))) :
  ∀ (U A : List (List Val)), SrtR A → (A ++ U).Perm X → a + A.length + U.length = b →
  Run T (Ret [] R) (.inLoop Xq0.b0 :: Xq0.k0) (mkE 53 [(0, dat n), (1, .int .i64 a), (2, .int .i64 b), (3, ordC), (8, .int .i64 ((a + A.length : Nat) : Int))]) (zS (P ++ (A ++ (U ++ S)))) := by
 intro U
 induction U with
 | nil =>
  intro A hA hp hl
  rw [List.append_nil] at hp
  have nx := next A hA hp
  rw [List.length_nil, Nat.add_zero] at hl
  rw [run_round, run_unfold Xq0.b0.eq_1]
  simp (maxSteps := 2000000) only [go_sem, hl, Int.lt_irrefl, run_unfold Xq0.c0.eq_1, run_unfold Xq0.c1.eq_1, Xq0.k0, Xq0.k1]
  exact nx
 | cons x U ih =>
  intro A hA hp hl
  rw [List.length_cons] at hl
  have hlt : ((a + A.length : Nat) : Int) < (b : Int) := by omega
  have hx : x.length ≤ 1000000 := hX x (hp.mem_iff.1 (by simp))
  have hi := insI (n := n) (a := a) (b := b) (i := a + A.length) (x := x) (P := P) (S := U ++ S) (Q := Ret [] R) hn hx hP (by omega) (w := A.length) rfl (by simp; omega) A.length A [] rfl (by rw [List.append_nil]; exact hA) (by simp) (by simp) (fun Z h1 h2 => by
   rw [List.append_nil] at h2
   have hz := h2.length_eq
   rw [List.length_cons] at hz
   have := ih Z h1 ((h2.append_right U).trans (by
    have : (x :: A ++ U).Perm (A ++ x :: U) := (List.perm_middle).symm
    exact this.trans hp)) (by omega)
   rw [hz, ← Nat.add_assoc] at this
   exact this)
  rw [run_round, run_unfold Xq0.b0.eq_1]
  simp (maxSteps := 2000000) only [go_sem, hlt]
  exact hi
theorem insertion {n a b : Nat} {P X S : List (List Val)} {R : Post} (hn : n ≤ 100000) (hP : P.length = a) (hb : a + X.length = b) (hl : b + S.length = n) (hX : ∀ r ∈ X, r.length ≤ 1000000)
  (next : ∀ Z, SrtR Z → Z.Perm X → R (.tup []) (zS (P ++ (Z ++ S)))) :
  Cw T false i_Xq0 [dat n, .int .i64 a, .int .i64 b, ordC] [] (zS (P ++ (X ++ S))) R := by
 rw [cw_enter T_Xq0 (by simp), run_unfold Xq0.main.eq_1]
 have w1 := wrap_succ (show a < 9223372036854775807 by omega)
 simp (maxSteps := 2000000) only [go_sem, w1]
 cases X with
 | nil =>
  have nx := next [] srtR_nil (List.Perm.refl _)
  rw [List.length_nil] at hb
  have h : ¬ ((a + 1 : Nat) : Int) < (b : Int) := by omega
  rw [run_round, run_unfold Xq0.b0.eq_1]
  simp (maxSteps := 2000000) only [go_sem, h, run_unfold Xq0.c0.eq_1, run_unfold Xq0.c1.eq_1, Xq0.k0, Xq0.k1]
  exact nx
 | cons x U =>
  rw [List.length_cons] at hb
  have := insO (n := n) (a := a) (b := b) (P := P) (S := S) (X := x :: U) hn hP hl hX next U [x] (srtR_one x) (List.Perm.refl _) (by simp; omega)
  exact this
theorem insertion_call {n a b : Nat} {P X S D : List (List Val)} {Q : Post3} {kk : List Item} {os : List AOper} {d : Option Nat} {e : Env} (hn : n ≤ 100000) (hP : P.length = a) (hb : a + X.length = b) (hl : b + S.length = n) (hX : ∀ r ∈ X, r.length ≤ 1000000) (hD : D = P ++ (X ++ S))
  (next : ∀ Z, SrtR Z → Z.Perm X → Run T Q (.ops os :: kk) (put e d (.tup [])) (zS (P ++ (Z ++ S)))) :
  CallK T Q kk os d e (zS D) false i_Xq0 [dat n, .int .i64 a, .int .i64 b, ordC] := by
 subst hD
 unfold CallK
 exact insertion hn hP hb hl hX next
end Go.Abs
/- Walks of chapter 40: symMerge. -/
set_option linter.unusedSimpArgs false
set_option linter.unusedVariables false
set_option maxRecDepth 100000
set_option maxHeartbeats 4000000
namespace Go.Abs
open Go
attribute [local go_sem_proc] Nat.reduceLT Nat.reduceEqDiff Nat.reduceLeDiff Nat.reduceAdd Nat.reduceSub Nat.reduceMul Int.reduceLT Int.reduceLE Int.reduceEq Int.reduceNeg
attribute [local go_sem_proc ↓] reduceIte

theorem half {i j : Nat} (h : i + j < 1000000) {σ : Sto} : binV .shr (.int .u64 (IntKind.u64.wrap (IntKind.i64.wrap ((i : Int) + (j : Int))))) (.int .u64 1) σ = some (.int .u64 (((i + j) / 2 : Nat) : Int), σ) := by
 have e1 : IntKind.i64.wrap ((i : Int) + (j : Int)) = ((i + j : Nat) : Int) := by rw [wrap_i64 (by omega) (by omega)]; omega
 have e2 : IntKind.u64.wrap ((i + j : Nat) : Int) = ((i + j : Nat) : Int) := by
  have e1 : (2 : Int) ^ IntKind.u64.bits = 18446744073709551616 := by decide
  have e3 : IntKind.u64.signed = false := rfl
  simp only [IntKind.wrap, e1, e3, Bool.false_and, Bool.false_eq_true, if_false]
  omega
 have e3 : ((i + j : Nat) : Int).fdiv (2 ^ (min (1 : Int).toNat IntKind.u64.bits)) = (((i + j) / 2 : Nat) : Int) := by
  show ((i + j : Nat) : Int).fdiv 2 = _
  rw [Int.fdiv_eq_ediv_of_nonneg _ (by omega)]; omega
 rw [e1, e2]
 simp only [binV, binA, binInt, e3]
 rfl
theorem cmpR_le_lt {a b c : List Val} (h1 : cmpR a b ≤ 0) (h2 : cmpR b c < 0) : cmpR a c < 0 := by
 have h3 := cmpR_trans h1 (show cmpR b c ≤ 0 by omega)
 rcases Int.lt_or_eq_of_le h3 with h | h
 ·exact h
 ·have := cmpR_zero.1 h
  subst this
  have := cmpR_anti a b
  omega
theorem cmpR_lt_le {a b c : List Val} (h1 : cmpR a b < 0) (h2 : cmpR b c ≤ 0) : cmpR a c < 0 := by
 have h3 := cmpR_trans (show cmpR a b ≤ 0 by omega) h2
 rcases Int.lt_or_eq_of_le h3 with h | h
 ·exact h
 ·have := cmpR_zero.1 h
  subst this
  have := cmpR_anti a b
  omega

theorem srch0 {n a m b : Nat} {x : List Val} {D : List (List Val)} {Q : Post3} (hn : n ≤ 100000) (hDl : D.length = n) (hbn : b ≤ n) (ha : a < D.length) (hx : D[a] = x) (hl : ∀ r ∈ D, r.length ≤ 1000000)
  (hs : ∀ q q' (h : q < D.length) (h' : q' < D.length), m ≤ q → q ≤ q' → q' < b → cmpR D[q] D[q'] ≤ 0)
  (next : ∀ i, m ≤ i → i ≤ b → (∀ q (h : q < D.length), m ≤ q → q < i → cmpR D[q] x < 0) → (∀ q (h : q < D.length), i ≤ q → q < b → ¬ cmpR D[q] x < 0) →
   Run T Q (.inLoop Xq2.b1 :: Xq2.k1) (mkE 220 [(0, dat n), (10, .int .i64 i), (13, .int .i64 a)]) (zS D)) :
  ∀ (c i j : Nat), j - i ≤ c → m ≤ i → i ≤ j → j ≤ b → (∀ q (h : q < D.length), m ≤ q → q < i → cmpR D[q] x < 0) → (∀ q (h : q < D.length), j ≤ q → q < b → ¬ cmpR D[q] x < 0) →
   Run T Q (.inLoop Xq2.b0 :: Xq2.k0) (mkE 220 [(0, dat n), (1, .int .i64 a), (4, ordC), (10, .int .i64 i), (11, .int .i64 j)]) (zS D) := by
 intro c
 induction c with
 | zero =>
  intro i j hc hmi hij hjb h1 h2
  have e : j = i := by omega
  subst e
  have nx := next j hmi hjb h1 h2
  rw [run_round, run_unfold Xq2.b0.eq_1]
  simp (maxSteps := 2000000) only [go_sem, run_unfold Xq2.c0.eq_1, run_unfold Xq2.c1.eq_1, run_unfold Xq2.c10.eq_1, run_unfold Xq2.c11.eq_1, run_unfold Xq2.c2.eq_1, run_unfold Xq2.c3.eq_1, run_unfold Xq2.c4.eq_1, run_unfold Xq2.c5.eq_1, run_unfold Xq2.c6.eq_1, run_unfold Xq2.c7.eq_1, run_unfold Xq2.c8.eq_1, run_unfold Xq2.c9.eq_1, Xq2.k0, Xq2.k1, Xq2.k2, Xq2.k3, Xq2.k4, Int.lt_irrefl]
  exact nx
 | succ c ih =>
  intro i j hc hmi hij hjb h1 h2
  by_cases e : i = j
  ·subst e
   have nx := next i hmi hjb h1 h2
   rw [run_round, run_unfold Xq2.b0.eq_1]
   simp (maxSteps := 2000000) only [go_sem, run_unfold Xq2.c0.eq_1, run_unfold Xq2.c1.eq_1, run_unfold Xq2.c10.eq_1, run_unfold Xq2.c11.eq_1, run_unfold Xq2.c2.eq_1, run_unfold Xq2.c3.eq_1, run_unfold Xq2.c4.eq_1, run_unfold Xq2.c5.eq_1, run_unfold Xq2.c6.eq_1, run_unfold Xq2.c7.eq_1, run_unfold Xq2.c8.eq_1, run_unfold Xq2.c9.eq_1, Xq2.k0, Xq2.k1, Xq2.k2, Xq2.k3, Xq2.k4, Int.lt_irrefl]
   exact nx
  ·have hlt : ((i : Nat) : Int) < (j : Int) := by omega
   have hf := fun {σ : Sto} => half (i := i) (j := j) (by omega) (σ := σ)
   obtain ⟨h, hh⟩ : ∃ h, h = (i + j) / 2 := ⟨_, rfl⟩
   rw [← hh] at hf
   have hi1 : i ≤ h := by omega
   have hi2 : h < j := by omega
   clear hh
   have w1 : IntKind.i64.wrap (h : Int) = (h : Int) := wrap_nat (by omega)
   have w2 := wrap_succ (show h < 9223372036854775807 by omega)
   have hd : h < D.length := by omega
   have l1 : h < n := by omega
   have l2 : a < n := by omega
   have hlx : D[h].length ≤ 1000000 := hl _ (List.getElem_mem hd)
   have hlx2 : x.length ≤ 1000000 := by rw [← hx]; exact hl _ (List.getElem_mem ha)
   by_cases hc0 : cmpR D[h] x < 0
   ·have ih' := ih (h + 1) j (by omega) (by omega) (by omega) hjb (fun q hq hm hlt => cmpR_le_lt (hs q h hq hd hm (by omega) (by omega)) hc0) h2
    rw [run_round, run_unfold Xq2.b0.eq_1]
    simp (maxSteps := 2000000) only [go_sem, hlt, hf, w1, w2, hDl, ha, hx, hd, l1, l2, Xq25_call hlx, Xq25_call hlx2, hc0]
    exact ih'
   ·have ih' := ih i h (by omega) hmi hi1 (by omega) h1 (fun q hq hm hlt hc1 => hc0 (cmpR_le_lt (hs h q hd hq (by omega) hm hlt) hc1))
    rw [run_round, run_unfold Xq2.b0.eq_1]
    simp (maxSteps := 2000000) only [go_sem, hlt, hf, w1, w2, hDl, ha, hx, hd, l1, l2, Xq25_call hlx, Xq25_call hlx2, hc0]
    exact ih'
theorem srch2 {n a m b : Nat} {x : List Val} {D : List (List Val)} {Q : Post3} (hn : n ≤ 100000) (hDl : D.length = n) (hbn : m ≤ n) (ha : m < D.length) (hx : D[m] = x) (hl : ∀ r ∈ D, r.length ≤ 1000000)
  (hs : ∀ q q' (h : q < D.length) (h' : q' < D.length), a ≤ q → q ≤ q' → q' < m → cmpR D[q] D[q'] ≤ 0)
  (next : ∀ i, a ≤ i → i ≤ m → (∀ q (h : q < D.length), a ≤ q → q < i → ¬ cmpR x D[q] < 0) → (∀ q (h : q < D.length), i ≤ q → q < m → cmpR x D[q] < 0) →
   Run T Q (.inLoop Xq2.b3 :: Xq2.k3) (mkE 220 [(0, dat n), (14, .int .i64 i), (17, .int .i64 m)]) (zS D)) :
  ∀ (c i j : Nat), j - i ≤ c → a ≤ i → i ≤ j → j ≤ m → (∀ q (h : q < D.length), a ≤ q → q < i → ¬ cmpR x D[q] < 0) → (∀ q (h : q < D.length), j ≤ q → q < m → cmpR x D[q] < 0) →
   Run T Q (.inLoop Xq2.b2 :: Xq2.k2) (mkE 220 [(0, dat n), (2, .int .i64 m), (4, ordC), (14, .int .i64 i), (15, .int .i64 j)]) (zS D) := by
 intro c
 induction c with
 | zero =>
  intro i j hc hmi hij hjb h1 h2
  have e : j = i := by omega
  subst e
  have nx := next j hmi hjb h1 h2
  rw [run_round, run_unfold Xq2.b2.eq_1]
  simp (maxSteps := 2000000) only [go_sem, run_unfold Xq2.c0.eq_1, run_unfold Xq2.c1.eq_1, run_unfold Xq2.c10.eq_1, run_unfold Xq2.c11.eq_1, run_unfold Xq2.c2.eq_1, run_unfold Xq2.c3.eq_1, run_unfold Xq2.c4.eq_1, run_unfold Xq2.c5.eq_1, run_unfold Xq2.c6.eq_1, run_unfold Xq2.c7.eq_1, run_unfold Xq2.c8.eq_1, run_unfold Xq2.c9.eq_1, Xq2.k0, Xq2.k1, Xq2.k2, Xq2.k3, Xq2.k4, Int.lt_irrefl]
  exact nx
 | succ c ih =>
  intro i j hc hmi hij hjb h1 h2
  by_cases e : i = j
  ·subst e
   have nx := next i hmi hjb h1 h2
   rw [run_round, run_unfold Xq2.b2.eq_1]
   simp (maxSteps := 2000000) only [go_sem, run_unfold Xq2.c0.eq_1, run_unfold Xq2.c1.eq_1, run_unfold Xq2.c10.eq_1, run_unfold Xq2.c11.eq_1, run_unfold Xq2.c2.eq_1, run_unfold Xq2.c3.eq_1, run_unfold Xq2.c4.eq_1, run_unfold Xq2.c5.eq_1, run_unfold Xq2.c6.eq_1, run_unfold Xq2.c7.eq_1, run_unfold Xq2.c8.eq_1, run_unfold Xq2.c9.eq_1, Xq2.k0, Xq2.k1, Xq2.k2, Xq2.k3, Xq2.k4, Int.lt_irrefl]
   exact nx
  ·have hlt : ((i : Nat) : Int) < (j : Int) := by omega
   have hf := fun {σ : Sto} => half (i := i) (j := j) (by omega) (σ := σ)
   obtain ⟨h, hh⟩ : ∃ h, h = (i + j) / 2 := ⟨_, rfl⟩
   rw [← hh] at hf
   have hi1 : i ≤ h := by omega
   have hi2 : h < j := by omega
   clear hh
   have w1 : IntKind.i64.wrap (h : Int) = (h : Int) := wrap_nat (by omega)
   have w2 := wrap_succ (show h < 9223372036854775807 by omega)
   have hd : h < D.length := by omega
   have l1 : h < n := by omega
   have l2 : m < n := by omega
   have hlx : D[h].length ≤ 1000000 := hl _ (List.getElem_mem hd)
   have hlx2 : x.length ≤ 1000000 := by rw [← hx]; exact hl _ (List.getElem_mem ha)
   by_cases hc0 : cmpR x D[h] < 0
   ·have ih' := ih i h (by omega) hmi hi1 (by omega) h1 (fun q hq hm hlt => cmpR_lt_le hc0 (hs h q hd hq (by omega) hm hlt))
    rw [run_round, run_unfold Xq2.b2.eq_1]
    simp (maxSteps := 2000000) only [go_sem, hlt, hf, w1, w2, hDl, ha, hx, hd, l1, l2, Xq25_call hlx, Xq25_call hlx2, hc0]
    exact ih'
   ·have ih' := ih (h + 1) j (by omega) (by omega) (by omega) hjb (fun q hq hm hlt hc1 => hc0 (cmpR_lt_le hc1 (hs q h hq hd hm (by omega) (by omega)))) h2
    rw [run_round, run_unfold Xq2.b2.eq_1]
    simp (maxSteps := 2000000) only [go_sem, hlt, hf, w1, w2, hDl, ha, hx, hd, l1, l2, Xq25_call hlx, Xq25_call hlx2, hc0]
    exact ih'
end Go.Abs
/- Walks of chapter 40: symMerge's loops that move one row; its search. -/
set_option linter.unusedSimpArgs false
set_option linter.unusedVariables false
set_option maxRecDepth 100000
set_option maxHeartbeats 4000000
namespace Go.Abs
open Go
attribute [local go_sem_proc] Nat.reduceLT Nat.reduceEqDiff Nat.reduceLeDiff Nat.reduceAdd Nat.reduceSub Nat.reduceMul Int.reduceLT Int.reduceLE Int.reduceEq Int.reduceNeg
attribute [local go_sem_proc ↓] reduceIte

theorem bub1 {n a i : Nat} {x : List Val} {P S : List (List Val)} {R : Post} (hn : n ≤ 100000) (hP : P.length = a) : ∀ (W V : List (List Val)), a + V.length + W.length + 1 = i → i + S.length = n → R (.tup []) (zS (P ++ (V ++ (W ++ x :: S)))) →
  Run T (Ret [] R) (.inLoop Xq2.b1 :: Xq2.k1) (mkE 220 [(0, dat n), (10, .int .i64 i), (13, .int .i64 ((a + V.length : Nat) : Int))]) (zS (P ++ (V ++ x :: (W ++ S)))) := by
 intro W
 induction W with
 | nil =>
  intro V hi hl next
  have w1 : IntKind.i64.wrap ((i : Int) - 1) = ((a + V.length : Nat) : Int) := by rw [wrap_i64 (by omega) (by simp at hi; omega)]; simp at hi; omega
  rw [run_round, run_unfold Xq2.b1.eq_1]
  simp (maxSteps := 2000000) only [go_sem, run_unfold Xq2.c0.eq_1, run_unfold Xq2.c1.eq_1, run_unfold Xq2.c10.eq_1, run_unfold Xq2.c11.eq_1, run_unfold Xq2.c2.eq_1, run_unfold Xq2.c3.eq_1, run_unfold Xq2.c4.eq_1, run_unfold Xq2.c5.eq_1, run_unfold Xq2.c6.eq_1, run_unfold Xq2.c7.eq_1, run_unfold Xq2.c8.eq_1, run_unfold Xq2.c9.eq_1, Xq2.k0, Xq2.k1, Xq2.k2, Xq2.k3, Xq2.k4, Int.lt_irrefl, w1]
  exact next
 | cons w W ih =>
  intro V hi hl next
  rw [List.length_cons] at hi
  have w1 : IntKind.i64.wrap ((i : Int) - 1) = ((a + V.length + W.length + 1 : Nat) : Int) := by rw [wrap_i64 (by omega) (by omega)]; omega
  have w2 : IntKind.i64.wrap (((a + V.length : Nat) : Int) + 1) = ((a + V.length + 1 : Nat) : Int) := wrap_succ (by omega)
  have hlt : ((a + V.length : Nat) : Int) < ((a + V.length + W.length + 1 : Nat) : Int) := by omega
  have ih' := ih (V ++ [w]) (by simp; omega) hl (by
   have e : P ++ (V ++ [w] ++ (W ++ x :: S)) = P ++ (V ++ (w :: W ++ x :: S)) := by simp
   rw [e]; exact next)
  have e1 : P ++ (V ++ x :: (w :: W ++ S)) = (P ++ V) ++ x :: ([] ++ w :: (W ++ S)) := by simp
  have e2 : P ++ (V ++ [w] ++ x :: (W ++ S)) = (P ++ V) ++ w :: ([] ++ x :: (W ++ S)) := by simp
  obtain ⟨g1, g2, g3, g4⟩ := two_get (P := P ++ V) (M := []) (S := W ++ S) (x := x) (y := w) (i := a + V.length) (j := a + V.length + 1) (by simp; omega) (by simp; omega)
  have hDl : (P ++ (V ++ x :: (w :: W ++ S))).length = n := by simp; omega
  rw [e1] at hDl ⊢
  rw [e2, ← g3, List.length_append, List.length_cons, List.length_nil] at ih'
  generalize (P ++ V) ++ x :: ([] ++ w :: (W ++ S)) = D at *
  obtain ⟨h1, g1⟩ := get_of g1
  obtain ⟨h2, g2⟩ := get_of g2
  have l1 : a + V.length < n := by omega
  have l2 : a + V.length + 1 < n := by omega
  have p1 := put1 (y := w) h1
  have p2 := put1 (D := D.set (a + V.length) w) (k := a + V.length + 1) (y := x) (by rw [List.length_set]; exact h2)
  rw [run_round, run_unfold Xq2.b1.eq_1]
  simp (maxSteps := 2000000) only [go_sem, hlt, w1, w2, hDl, h1, h2, g1, g2, l1, l2, show a + V.length + 1 ≤ n by omega, show a + V.length + 1 + 1 ≤ n by omega, p1, p2, List.length_set, List.length_map]
  exact ih'
theorem bub3 {n a i : Nat} {y : List Val} {P V1 S : List (List Val)} {R : Post} (hn : n ≤ 100000) (hP : P.length = a) (hi : a + V1.length = i) : ∀ (c : Nat) (V2 W : List (List Val)), V2.length = c → i + V2.length + 1 + W.length + S.length = n → R (.tup []) (zS (P ++ (V1 ++ y :: (V2 ++ (W ++ S))))) →
  Run T (Ret [] R) (.inLoop Xq2.b3 :: Xq2.k3) (mkE 220 [(0, dat n), (14, .int .i64 i), (17, .int .i64 ((i + V2.length : Nat) : Int))]) (zS (P ++ (V1 ++ (V2 ++ y :: (W ++ S))))) := by
 intro c
 induction c with
 | zero =>
  intro V2 W hc hl next
  have e : V2 = [] := List.eq_nil_of_length_eq_zero hc
  subst e
  rw [run_round, run_unfold Xq2.b3.eq_1]
  simp (maxSteps := 2000000) only [go_sem, run_unfold Xq2.c0.eq_1, run_unfold Xq2.c1.eq_1, run_unfold Xq2.c10.eq_1, run_unfold Xq2.c11.eq_1, run_unfold Xq2.c2.eq_1, run_unfold Xq2.c3.eq_1, run_unfold Xq2.c4.eq_1, run_unfold Xq2.c5.eq_1, run_unfold Xq2.c6.eq_1, run_unfold Xq2.c7.eq_1, run_unfold Xq2.c8.eq_1, run_unfold Xq2.c9.eq_1, Xq2.k0, Xq2.k1, Xq2.k2, Xq2.k3, Xq2.k4, Int.lt_irrefl, List.length_nil, Nat.add_zero]
  exact next
 | succ c ih =>
  intro V2 W hc hl next
  obtain ⟨V, Y, rfl, hY⟩ := cut_end (l := V2) (k := 1) (by omega)
  obtain ⟨v, rfl⟩ : ∃ y, Y = [y] := by
   match Y, hY with
   | [y], _ => exact ⟨y, rfl⟩
  simp only [List.length_append, List.length_cons, List.length_nil, Nat.zero_add] at hc hl
  have w1 : IntKind.i64.wrap (((i + (V.length + 1) : Nat) : Int) - 1) = ((i + V.length : Nat) : Int) := by rw [wrap_i64 (by omega) (by omega)]; omega
  have hlt : ((i : Nat) : Int) < ((i + (V.length + 1) : Nat) : Int) := by omega
  have ih' := ih V (v :: W) (by omega) (by simp; omega) (by
   have e : P ++ (V1 ++ y :: (V ++ (v :: W ++ S))) = P ++ (V1 ++ y :: (V ++ [v] ++ (W ++ S))) := by simp
   rw [e]; exact next)
  have e1 : P ++ (V1 ++ (V ++ [v] ++ y :: (W ++ S))) = (P ++ V1 ++ V) ++ v :: ([] ++ y :: (W ++ S)) := by simp
  have e2 : P ++ (V1 ++ (V ++ y :: (v :: W ++ S))) = (P ++ V1 ++ V) ++ y :: ([] ++ v :: (W ++ S)) := by simp
  obtain ⟨g1, g2, g3, g4⟩ := two_get (P := P ++ V1 ++ V) (M := []) (S := W ++ S) (x := v) (y := y) (i := i + V.length) (j := i + (V.length + 1)) (by simp; omega) (by simp; omega)
  have hDl : (P ++ (V1 ++ (V ++ [v] ++ y :: (W ++ S)))).length = n := by simp; omega
  rw [e1] at hDl ⊢
  rw [e2, ← g4] at ih'
  generalize (P ++ V1 ++ V) ++ v :: ([] ++ y :: (W ++ S)) = D at *
  obtain ⟨h1, g1⟩ := get_of g1
  obtain ⟨h2, g2⟩ := get_of g2
  have l1 : i + V.length < n := by omega
  have l2 : i + (V.length + 1) < n := by omega
  have p1 := put1 (y := v) h2
  have p2 := put1 (D := D.set (i + (V.length + 1)) v) (k := i + V.length) (y := y) (by rw [List.length_set]; exact h1)
  rw [run_round, run_unfold Xq2.b3.eq_1]
  simp (maxSteps := 2000000) only [go_sem, hlt, w1, hDl, h1, h2, g1, g2, l1, l2, show i + V.length + 1 ≤ n by omega, show i + (V.length + 1) + 1 ≤ n by omega, p1, p2, List.length_set, List.length_map, List.length_append, List.length_cons, List.length_nil, Nat.zero_add]
  exact ih'

theorem srch4 {n a m b mid nn p s0 r0 : Nat} {D : List (List Val)} {Q : Post3} (hn : n ≤ 100000) (hDl : D.length = n) (hbn : b ≤ n) (hl : ∀ r ∈ D, r.length ≤ 1000000)
  (hx : ∀ q q' (h : q < D.length) (h' : q' < D.length), a ≤ q → q ≤ q' → q' < m → cmpR D[q] D[q'] ≤ 0) (hy : ∀ q q' (h : q < D.length) (h' : q' < D.length), m ≤ q → q ≤ q' → q' < b → cmpR D[q] D[q'] ≤ 0)
  (ha : a ≤ s0) (hr0 : r0 ≤ m) (hmb : m ≤ b) (hp : ∀ c, s0 ≤ c → c < r0 → c ≤ p ∧ m ≤ p - c ∧ p - c < b)
  (next : ∀ i, s0 ≤ i → i ≤ r0 → (∀ c (h : c < D.length) (h' : p - c < D.length), s0 ≤ c → c < i → ¬ cmpR D[p - c] D[c] < 0) → (∀ c (h : c < D.length) (h' : p - c < D.length), i ≤ c → c < r0 → cmpR D[p - c] D[c] < 0) →
   Run T Q [.code Xq2.c4, .code Xq2.c3] (mkE 220 [(0, dat n), (1, .int .i64 a), (2, .int .i64 m), (3, .int .i64 b), (4, ordC), (18, .int .i64 mid), (19, .int .i64 nn), (20, .int .i64 i), (21, .int .i64 i), (22, .int .i64 p), (151, .bool false)]) (zS D)) :
  ∀ (c i j : Nat), j - i ≤ c → s0 ≤ i → i ≤ j → j ≤ r0 → (∀ c (h : c < D.length) (h' : p - c < D.length), s0 ≤ c → c < i → ¬ cmpR D[p - c] D[c] < 0) → (∀ c (h : c < D.length) (h' : p - c < D.length), j ≤ c → c < r0 → cmpR D[p - c] D[c] < 0) →
   Run T Q (.inLoop Xq2.b4 :: Xq2.k4) (mkE 220 [(0, dat n), (1, .int .i64 a), (2, .int .i64 m), (3, .int .i64 b), (4, ordC), (18, .int .i64 mid), (19, .int .i64 nn), (20, .int .i64 i), (21, .int .i64 j), (22, .int .i64 p)]) (zS D) := by
 intro c
 induction c with
 | zero =>
  intro i j hc hmi hij hjb h1 h2
  have e : j = i := by omega
  subst e
  have nx := next j hmi hjb h1 h2
  rw [run_round, run_unfold Xq2.b4.eq_1]
  simp (maxSteps := 2000000) only [go_sem, Int.lt_irrefl, Xq2.k4]
  exact nx
 | succ c ih =>
  intro i j hc hmi hij hjb h1 h2
  by_cases e : i = j
  ·subst e
   have nx := next i hmi hjb h1 h2
   rw [run_round, run_unfold Xq2.b4.eq_1]
   simp (maxSteps := 2000000) only [go_sem, Int.lt_irrefl, Xq2.k4]
   exact nx
  ·have hlt : ((i : Nat) : Int) < (j : Int) := by omega
   have hf := fun {σ : Sto} => half (i := i) (j := j) (by omega) (σ := σ)
   obtain ⟨h, hh⟩ : ∃ h, h = (i + j) / 2 := ⟨_, rfl⟩
   rw [← hh] at hf
   have hi1 : i ≤ h := by omega
   have hi2 : h < j := by omega
   clear hh
   obtain ⟨q1, q2, q3⟩ := hp h (by omega) (by omega)
   have w1 : IntKind.i64.wrap (h : Int) = (h : Int) := wrap_nat (by omega)
   have w2 := wrap_succ (show h < 9223372036854775807 by omega)
   have w3 : IntKind.i64.wrap ((p : Int) - (h : Int)) = ((p - h : Nat) : Int) := by rw [wrap_i64 (by omega) (by omega)]; omega
   have hd : h < D.length := by omega
   have hd2 : p - h < D.length := by omega
   have l1 : h < n := by omega
   have l2 : p - h < n := by omega
   have hlx : D[p - h].length ≤ 1000000 := hl _ (List.getElem_mem hd2)
   by_cases hc0 : cmpR D[p - h] D[h] < 0
   ·have ih' := ih i h (by omega) hmi hi1 (by omega) h1 (fun q hq hq2 hm hlt => by
     obtain ⟨t1, t2, t3⟩ := hp q (by omega) (by omega)
     exact cmpR_lt_le (cmpR_le_lt (hy (p - q) (p - h) hq2 hd2 t2 (by omega) q3) hc0) (hx h q hd hq (by omega) hm (by omega)))
    rw [run_round, run_unfold Xq2.b4.eq_1]
    simp (maxSteps := 2000000) only [go_sem, hlt, hf, w1, w2, w3, hDl, hd, hd2, l1, l2, Xq25_call hlx, hc0]
    exact ih'
   ·have ih' := ih (h + 1) j (by omega) (by omega) (by omega) hjb (fun q hq hq2 hm hlt hc1 => by
     obtain ⟨t1, t2, t3⟩ := hp q (by omega) (by omega)
     exact hc0 (cmpR_lt_le (cmpR_le_lt (hy (p - h) (p - q) hd2 hq2 q2 (by omega) t3) hc1) (hx q h hq hd (by omega) (by omega) (by omega)))) h2
    rw [run_round, run_unfold Xq2.b4.eq_1]
    simp (maxSteps := 2000000) only [go_sem, hlt, hf, w1, w2, w3, hDl, hd, hd2, l1, l2, Xq25_call hlx, hc0]
    exact ih'
end Go.Abs
/- Walks of chapter 40: symMerge merges two sorted parts. -/
set_option linter.unusedSimpArgs false
set_option linter.unusedVariables false
set_option maxRecDepth 100000
set_option maxHeartbeats 4000000
namespace Go.Abs
open Go
attribute [local go_sem_proc] Nat.reduceLT Nat.reduceEqDiff Nat.reduceLeDiff Nat.reduceAdd Nat.reduceSub Nat.reduceMul Int.reduceLT Int.reduceLE Int.reduceEq Int.reduceNeg
attribute [local go_sem_proc ↓] reduceIte

theorem seg_get {α : Type} {D P X S : List α} (hD : D = P ++ (X ++ S)) {i k : Nat} (hk : k = P.length + i) (h : i < X.length) : ∃ h' : k < D.length, D[k] = X[i] := by
 subst hD hk
 refine ⟨by simp only [List.length_append]; omega, ?_⟩
 rw [List.getElem_append_right (by omega), List.getElem_append_left (by omega)]
 simp only [Nat.add_sub_cancel_left]
theorem seg_srt {D P X S : List (List Val)} (hD : D = P ++ (X ++ S)) (hX : SrtR X) {a b : Nat} (ha : P.length = a) (hb : a + X.length = b) : ∀ q q' (h : q < D.length) (h' : q' < D.length), a ≤ q → q ≤ q' → q' < b → cmpR D[q] D[q'] ≤ 0 := by
 intro q q' h h' h1 h2 h3
 obtain ⟨_, e1⟩ := seg_get hD (i := q - a) (k := q) (by omega) (by omega)
 obtain ⟨_, e2⟩ := seg_get hD (i := q' - a) (k := q') (by omega) (by omega)
 rw [e1, e2]
 exact srtR_get hX (by omega) (by omega) (by omega)

def SymOk (n w : Nat) : Prop := ∀ {a m b : Nat} {P X Y S : List (List Val)} {R : Post}, X.length + Y.length ≤ w → 0 < X.length → 0 < Y.length → SrtR X → SrtR Y → P.length = a → a + X.length = m → m + Y.length = b → b + S.length = n → (∀ r ∈ P ++ (X ++ (Y ++ S)), r.length ≤ 1000000) →
 (∀ Z, SrtR Z → Z.Perm (X ++ Y) → R (.tup []) (zS (P ++ (Z ++ S)))) → Cw T false i_Xq2 [dat n, .int .i64 a, .int .i64 m, .int .i64 b, ordC] [] (zS (P ++ (X ++ (Y ++ S)))) R

theorem tail1 {n w mid en b : Nat} {P L X Y S : List (List Val)} {R : Post} (ih : SymOk n w) (hn : n ≤ 100000) (hw : X.length + Y.length ≤ w) (hX : SrtR X) (hY : SrtR Y) (hL : SrtR L) (hLX : ∀ u ∈ L, ∀ v ∈ X ++ Y, cmpR u v ≤ 0) (hm : P.length + L.length = mid) (he : mid + X.length = en) (hb : en + Y.length = b) (hl : b + S.length = n)
  (hr : ∀ r ∈ P ++ (L ++ (X ++ (Y ++ S))), r.length ≤ 1000000) (next : ∀ Z, SrtR Z → Z.Perm (L ++ (X ++ Y)) → R (.tup []) (zS (P ++ (Z ++ S)))) :
  Run T (Ret [] R) [.code Xq2.c1] (mkE 220 [(0, dat n), (3, .int .i64 b), (4, ordC), (18, .int .i64 mid), (24, .int .i64 en)]) (zS (P ++ (L ++ (X ++ (Y ++ S))))) := by
 have key : ∀ Z, SrtR Z → Z.Perm (X ++ Y) → R (.tup []) (zS (P ++ (L ++ (Z ++ S)))) := by
  intro Z h1 h2
  have := next (L ++ Z) (srtR_app hL h1 fun u hu v hv => hLX u hu v (h2.mem_iff.1 hv)) (h2.append_left L)
  rwa [List.append_assoc] at this
 by_cases h1 : X = []
 ·subst h1
  have nx := key Y hY (List.Perm.refl _)
  have hlt : ¬ ((mid : Nat) : Int) < (en : Int) := by simp at he; omega
  simp (maxSteps := 2000000) only [go_sem, run_unfold Xq2.c0.eq_1, run_unfold Xq2.c1.eq_1, run_unfold Xq2.c10.eq_1, run_unfold Xq2.c11.eq_1, run_unfold Xq2.c2.eq_1, run_unfold Xq2.c3.eq_1, run_unfold Xq2.c4.eq_1, run_unfold Xq2.c5.eq_1, run_unfold Xq2.c6.eq_1, run_unfold Xq2.c7.eq_1, run_unfold Xq2.c8.eq_1, run_unfold Xq2.c9.eq_1, Xq2.k0, Xq2.k1, Xq2.k2, Xq2.k3, Xq2.k4, hlt, List.nil_append]
  exact nx
 ·have hX0 : 0 < X.length := List.length_pos_iff.2 h1
  have hlt : ((mid : Nat) : Int) < (en : Int) := by omega
  by_cases h2 : Y = []
  ·subst h2
   have nx := key X hX (by rw [List.append_nil])
   have hlt2 : ¬ ((en : Nat) : Int) < (b : Int) := by simp at hb; omega
   simp (maxSteps := 2000000) only [go_sem, run_unfold Xq2.c0.eq_1, run_unfold Xq2.c1.eq_1, run_unfold Xq2.c10.eq_1, run_unfold Xq2.c11.eq_1, run_unfold Xq2.c2.eq_1, run_unfold Xq2.c3.eq_1, run_unfold Xq2.c4.eq_1, run_unfold Xq2.c5.eq_1, run_unfold Xq2.c6.eq_1, run_unfold Xq2.c7.eq_1, run_unfold Xq2.c8.eq_1, run_unfold Xq2.c9.eq_1, Xq2.k0, Xq2.k1, Xq2.k2, Xq2.k3, Xq2.k4, hlt, hlt2, List.nil_append]
   exact nx
  ·have hY0 : 0 < Y.length := List.length_pos_iff.2 h2
   have hlt2 : ((en : Nat) : Int) < (b : Int) := by omega
   have e : P ++ (L ++ (X ++ (Y ++ S))) = (P ++ L) ++ (X ++ (Y ++ S)) := by simp
   simp (maxSteps := 2000000) only [go_sem, run_unfold Xq2.c0.eq_1, run_unfold Xq2.c1.eq_1, run_unfold Xq2.c10.eq_1, run_unfold Xq2.c11.eq_1, run_unfold Xq2.c2.eq_1, run_unfold Xq2.c3.eq_1, run_unfold Xq2.c4.eq_1, run_unfold Xq2.c5.eq_1, run_unfold Xq2.c6.eq_1, run_unfold Xq2.c7.eq_1, run_unfold Xq2.c8.eq_1, run_unfold Xq2.c9.eq_1, Xq2.k0, Xq2.k1, Xq2.k2, Xq2.k3, Xq2.k4, hlt, hlt2]
   unfold CallK
   rw [e]
   refine ih hw hX0 hY0 hX hY (by simp; omega) he hb hl (by rw [← e]; exact hr) fun Z z1 z2 => ?_
   have nx := key Z z1 z2
   have e2 : P ++ L ++ (Z ++ S) = P ++ (L ++ (Z ++ S)) := by simp
   rw [e2]
   simp (maxSteps := 2000000) only [go_sem, run_unfold Xq2.c0.eq_1, run_unfold Xq2.c1.eq_1, run_unfold Xq2.c10.eq_1, run_unfold Xq2.c11.eq_1, run_unfold Xq2.c2.eq_1, run_unfold Xq2.c3.eq_1, run_unfold Xq2.c4.eq_1, run_unfold Xq2.c5.eq_1, run_unfold Xq2.c6.eq_1, run_unfold Xq2.c7.eq_1, run_unfold Xq2.c8.eq_1, run_unfold Xq2.c9.eq_1, Xq2.k0, Xq2.k1, Xq2.k2, Xq2.k3, Xq2.k4]
   exact nx
theorem tail2 {n w a st mid en b : Nat} {P X1 Y1 X2 Y2 S : List (List Val)} {R : Post} (ih : SymOk n w) (hn : n ≤ 100000) (hw1 : X1.length + Y1.length ≤ w) (hw2 : X2.length + Y2.length ≤ w) (hX : SrtR X1) (hY : SrtR Y1) (hX2 : SrtR X2) (hY2 : SrtR Y2)
  (hLX : ∀ u ∈ X1 ++ Y1, ∀ v ∈ X2 ++ Y2, cmpR u v ≤ 0) (ha : P.length = a) (hs : a + X1.length = st) (hm : st + Y1.length = mid) (he : mid + X2.length = en) (hb : en + Y2.length = b) (hl : b + S.length = n)
  (hr : ∀ r ∈ P ++ (X1 ++ (Y1 ++ (X2 ++ (Y2 ++ S)))), r.length ≤ 1000000) (next : ∀ Z, SrtR Z → Z.Perm (X1 ++ (Y1 ++ (X2 ++ Y2))) → R (.tup []) (zS (P ++ (Z ++ S)))) :
  Run T (Ret [] R) [.code Xq2.c2] (mkE 220 [(0, dat n), (1, .int .i64 a), (3, .int .i64 b), (4, ordC), (18, .int .i64 mid), (20, .int .i64 st), (24, .int .i64 en)]) (zS (P ++ (X1 ++ (Y1 ++ (X2 ++ (Y2 ++ S)))))) := by
 have key : ∀ Z, SrtR Z → Z.Perm (X1 ++ Y1) → Run T (Ret [] R) [.code Xq2.c1] (mkE 220 [(0, dat n), (3, .int .i64 b), (4, ordC), (18, .int .i64 mid), (24, .int .i64 en)]) (zS (P ++ (Z ++ (X2 ++ (Y2 ++ S))))) := by
  intro Z h1 h2
  have hz := h2.length_eq
  rw [List.length_append] at hz
  refine tail1 ih hn hw2 hX2 hY2 h1 (fun u hu => hLX u (h2.mem_iff.1 hu)) (by omega) he hb hl (fun r hrm => hr r ?_) fun Z' z1 z2 => next Z' z1 ?_
  ·have : (P ++ (Z ++ (X2 ++ (Y2 ++ S)))).Perm (P ++ (X1 ++ (Y1 ++ (X2 ++ (Y2 ++ S))))) := by
    rw [← List.append_assoc X1]
    exact (h2.append_right _).append_left P
   exact this.mem_iff.1 hrm
  ·refine z2.trans ?_
   rw [← List.append_assoc X1]
   exact h2.append_right _
 by_cases h1 : X1 = []
 ·subst h1
  have nx := key Y1 hY (List.Perm.refl _)
  have hlt : ¬ ((a : Nat) : Int) < (st : Int) := by simp at hs; omega
  simp (maxSteps := 2000000) only [go_sem, run_unfold Xq2.c2.eq_1, hlt, List.nil_append]
  exact nx
 ·have hX0 : 0 < X1.length := List.length_pos_iff.2 h1
  have hlt : ((a : Nat) : Int) < (st : Int) := by omega
  by_cases h2 : Y1 = []
  ·subst h2
   have nx := key X1 hX (by rw [List.append_nil])
   have hlt2 : ¬ ((st : Nat) : Int) < (mid : Int) := by simp at hm; omega
   simp (maxSteps := 2000000) only [go_sem, run_unfold Xq2.c2.eq_1, hlt, hlt2, List.nil_append]
   exact nx
  ·have hY0 : 0 < Y1.length := List.length_pos_iff.2 h2
   have hlt2 : ((st : Nat) : Int) < (mid : Int) := by omega
   simp (maxSteps := 2000000) only [go_sem, run_unfold Xq2.c2.eq_1, hlt, hlt2]
   unfold CallK
   refine ih hw1 hX0 hY0 hX hY ha hs hm (by simp; omega) hr fun Z z1 z2 => ?_
   have nx := key Z z1 z2
   simp (maxSteps := 2000000) only [go_sem]
   exact nx
theorem tail3 {n w a st m mid nn en b : Nat} {P X1 Y1 X2 Y2 S : List (List Val)} {R : Post} (ih : SymOk n w) (hn : n ≤ 100000) (hw1 : X1.length + Y1.length ≤ w) (hw2 : X2.length + Y2.length ≤ w) (hX : SrtR X1) (hY : SrtR Y1) (hX2 : SrtR X2) (hY2 : SrtR Y2)
  (hLX : ∀ u ∈ X1 ++ Y1, ∀ v ∈ X2 ++ Y2, cmpR u v ≤ 0) (ha : P.length = a) (hs : a + X1.length = st) (hm : st + X2.length = m) (he : m + Y1.length = en) (hb : en + Y2.length = b) (hl : b + S.length = n) (hmid : st + Y1.length = mid) (hnn : nn = mid + m)
  (hr : ∀ r ∈ P ++ (X1 ++ (X2 ++ (Y1 ++ (Y2 ++ S)))), r.length ≤ 1000000) (next : ∀ Z, SrtR Z → Z.Perm (X1 ++ (Y1 ++ (X2 ++ Y2))) → R (.tup []) (zS (P ++ (Z ++ S)))) :
  Run T (Ret [] R) [.code Xq2.c3] (mkE 220 [(0, dat n), (1, .int .i64 a), (2, .int .i64 m), (3, .int .i64 b), (4, ordC), (18, .int .i64 mid), (19, .int .i64 nn), (20, .int .i64 st)]) (zS (P ++ (X1 ++ (X2 ++ (Y1 ++ (Y2 ++ S)))))) := by
 have w1 : IntKind.i64.wrap ((nn : Int) - (st : Int)) = ((en : Nat) : Int) := by rw [wrap_i64 (by omega) (by omega)]; omega
 have hp : (P ++ (X1 ++ (X2 ++ (Y1 ++ (Y2 ++ S))))).Perm (P ++ (X1 ++ (Y1 ++ (X2 ++ (Y2 ++ S))))) := by
  refine (List.Perm.append_left X1 ?_).append_left P
  rw [← List.append_assoc, ← List.append_assoc Y1]
  exact List.perm_append_comm.append_right _
 have key := tail2 (n := n) (w := w) (a := a) (st := st) (mid := mid) (en := en) (b := b) (P := P) (S := S) (R := R) ih hn hw1 hw2 hX hY hX2 hY2 hLX ha hs hmid (by omega) hb hl (fun r h => hr r (hp.mem_iff.2 h)) next
 by_cases h1 : X2 = []
 ·subst h1
  have hlt : ¬ ((st : Nat) : Int) < (m : Int) := by simp at hm; omega
  simp (maxSteps := 2000000) only [go_sem, run_unfold Xq2.c3.eq_1, w1, hlt, List.nil_append]
  exact key
 ·have hX0 : 0 < X2.length := List.length_pos_iff.2 h1
  have hlt : ((st : Nat) : Int) < (m : Int) := by omega
  by_cases h2 : Y1 = []
  ·subst h2
   have hlt2 : ¬ ((m : Nat) : Int) < (en : Int) := by simp at he; omega
   simp (maxSteps := 2000000) only [go_sem, run_unfold Xq2.c3.eq_1, w1, hlt, hlt2, List.nil_append]
   exact key
  ·have hY0 : 0 < Y1.length := List.length_pos_iff.2 h2
   have hlt2 : ((m : Nat) : Int) < (en : Int) := by omega
   simp (maxSteps := 2000000) only [go_sem, run_unfold Xq2.c3.eq_1, w1, hlt, hlt2]
   refine rotate_call (P := P ++ X1) (A := X2) (B := Y1) (S := Y2 ++ S) hn hX0 hY0 (by simp; omega) hm he (by simp; omega) (by simp) ?_
   simp (maxSteps := 2000000) only [go_sem]
   have e : P ++ X1 ++ (Y1 ++ (X2 ++ (Y2 ++ S))) = P ++ (X1 ++ (Y1 ++ (X2 ++ (Y2 ++ S)))) := by simp
   rw [e]
   exact key
end Go.Abs
/- Walks of chapter 40: symMerge, whole. -/
set_option linter.unusedSimpArgs false
set_option linter.unusedVariables false
set_option maxRecDepth 100000
set_option maxHeartbeats 4000000
namespace Go.Abs
open Go
attribute [local go_sem_proc] Nat.reduceLT Nat.reduceEqDiff Nat.reduceLeDiff Nat.reduceAdd Nat.reduceSub Nat.reduceMul Int.reduceLT Int.reduceLE Int.reduceEq Int.reduceNeg
attribute [local go_sem_proc ↓] reduceIte

theorem seg_mem {α : Type} {D P X S : List α} (hD : D = P ++ (X ++ S)) {u : α} (hu : u ∈ X) : ∃ (k : Nat) (h : k < D.length), P.length ≤ k ∧ k < P.length + X.length ∧ D[k] = u := by
 obtain ⟨i, hi, rfl⟩ := List.mem_iff_getElem.1 hu
 obtain ⟨h, e⟩ := seg_get hD (i := i) (k := P.length + i) rfl hi
 exact ⟨P.length + i, h, by omega, by omega, e⟩

theorem symEnd {n w a m b mid nn p s0 r0 i : Nat} {P X Y S : List (List Val)} {R : Post} (ih : SymOk n w) (hn : n ≤ 100000) (hw1 : mid ≤ a + w) (hw2 : b ≤ mid + w) (hX : SrtR X) (hY : SrtR Y) (ha : P.length = a) (hm : a + X.length = m) (hb : m + Y.length = b) (hl : b + S.length = n)
  (hnn : nn = mid + m) (hp : p + 1 = nn) (h1 : s0 = a ∨ s0 + b = mid + m) (h2 : r0 = m ∨ r0 = mid) (g1 : a ≤ s0) (g2 : r0 ≤ m) (g3 : r0 ≤ mid) (g4 : mid + m ≤ s0 + b) (g5 : mid ≤ b) (hi1 : s0 ≤ i) (hi2 : i ≤ r0)
  (hr : ∀ r ∈ P ++ (X ++ (Y ++ S)), r.length ≤ 1000000) (next : ∀ Z, SrtR Z → Z.Perm (X ++ Y) → R (.tup []) (zS (P ++ (Z ++ S))))
  {D : List (List Val)} (hD : D = P ++ (X ++ (Y ++ S)))
  (lo : ∀ c (h : c < D.length) (h' : p - c < D.length), s0 ≤ c → c < i → ¬ cmpR D[p - c] D[c] < 0) (hi : ∀ c (h : c < D.length) (h' : p - c < D.length), i ≤ c → c < r0 → cmpR D[p - c] D[c] < 0) :
  Run T (Ret [] R) [.code Xq2.c4, .code Xq2.c3] (mkE 220 [(0, dat n), (1, .int .i64 a), (2, .int .i64 m), (3, .int .i64 b), (4, ordC), (18, .int .i64 mid), (19, .int .i64 nn), (20, .int .i64 i), (21, .int .i64 i), (22, .int .i64 p), (151, .bool false)]) (zS D) := by
 have hDl : D.length = n := by rw [hD]; simp; omega
 have sx := seg_srt hD hX ha hm
 have hD2 : D = (P ++ X) ++ (Y ++ S) := by rw [hD]; simp
 have sy := seg_srt hD2 hY (a := m) (b := b) (by simp; omega) hb
 obtain ⟨X1, X2, rfl, hX1⟩ := cut_at (l := X) (k := i - a) (by omega)
 obtain ⟨Y1, Y2, rfl, hY1⟩ := cut_at (l := Y) (k := mid - i) (by omega)
 rw [List.length_append] at hm hb
 have e1 : D = P ++ (X1 ++ (X2 ++ (Y1 ++ (Y2 ++ S)))) := by rw [hD]; simp
 have e2 : D = (P ++ X1) ++ (X2 ++ (Y1 ++ (Y2 ++ S))) := by rw [hD]; simp
 have e3 : D = (P ++ X1 ++ X2) ++ (Y1 ++ (Y2 ++ S)) := by rw [hD]; simp
 have e4 : D = (P ++ X1 ++ X2 ++ Y1) ++ (Y2 ++ S) := by rw [hD]; simp
 have hLX : ∀ u ∈ X1 ++ Y1, ∀ v ∈ X2 ++ Y2, cmpR u v ≤ 0 := by
  intro u hu v hv
  rcases List.mem_append.1 hu with hu | hu <;> rcases List.mem_append.1 hv with hv | hv
  ·exact srtR_cross hX u hu v hv
  ·obtain ⟨c0, k1, k2, k3, rfl⟩ := seg_mem e1 hu
   obtain ⟨d0, k4, k5, k6, rfl⟩ := seg_mem e4 hv
   simp only [List.length_append] at k5 k6
   have := lo (i - 1) (by omega) (by omega) (by omega) (by omega)
   have e : p - (i - 1) = m + (mid - i) := by omega
   simp only [e] at this
   exact cmpR_trans (cmpR_trans (sx c0 (i - 1) k1 (by omega) (by omega) (by omega) (by omega)) (cmpR_tot this)) (sy (m + (mid - i)) d0 (by omega) k4 (by omega) (by omega) (by omega))
  ·obtain ⟨d0, k4, k5, k6, rfl⟩ := seg_mem e3 hu
   obtain ⟨c0, k1, k2, k3, rfl⟩ := seg_mem e2 hv
   simp only [List.length_append] at k5 k6 k2 k3
   have := hi i (by omega) (by omega) (by omega) (by omega)
   have e : p - i = m + (mid - i) - 1 := by omega
   simp only [e] at this
   exact cmpR_trans (cmpR_trans (sy d0 (m + (mid - i) - 1) k4 (by omega) (by omega) (by omega) (by omega)) (show cmpR _ _ ≤ 0 by omega)) (sx i c0 (by omega) k1 (by omega) (by omega) (by omega))
  ·exact srtR_cross hY u hu v hv
 have t3 := tail3 (n := n) (w := w) (a := a) (st := i) (m := m) (mid := mid) (nn := nn) (en := m + (mid - i)) (b := b) (P := P) (X1 := X1) (Y1 := Y1) (X2 := X2) (Y2 := Y2) (S := S) (R := R) ih hn (by omega) (by omega) (srtR_left hX) (srtR_left hY) (srtR_right hX) (srtR_right hY) hLX ha (by omega) (by omega) (by omega) (by omega) hl (by omega) hnn
  (by rw [← e1, hD]; exact hr) (fun Z z1 z2 => next Z z1 (z2.trans (by
   rw [List.append_assoc]
   refine List.Perm.append_left X1 ?_
   rw [← List.append_assoc, ← List.append_assoc X2]
   exact List.perm_append_comm.append_right _)))
 rw [e1]
 simp (maxSteps := 2000000) only [go_sem, run_unfold Xq2.c4.eq_1]
 exact t3

theorem symMerge {n : Nat} (hn : n ≤ 100000) : ∀ w, SymOk n w := by
 intro w
 induction w with
 | zero =>
  intro a m b P X Y S R hw hX0 hY0
  omega
 | succ w ih =>
  intro a m b P X Y S R hw hX0 hY0 hX hY ha hm hb hl hr next
  have w1 : IntKind.i64.wrap ((m : Int) - (a : Int)) = ((X.length : Nat) : Int) := by rw [wrap_i64 (by omega) (by omega)]; omega
  have w2 : IntKind.i64.wrap ((b : Int) - (m : Int)) = ((Y.length : Nat) : Int) := by rw [wrap_i64 (by omega) (by omega)]; omega
  obtain ⟨D, hD⟩ : ∃ D, D = P ++ (X ++ (Y ++ S)) := ⟨_, rfl⟩
  have hDl : D.length = n := by rw [hD]; simp; omega
  have hD2 : D = (P ++ X) ++ (Y ++ S) := by rw [hD]; simp
  have sx := seg_srt hD hX ha hm
  have sy := seg_srt hD2 hY (a := m) (b := b) (by simp; omega) hb
  have hr' : ∀ r ∈ D, r.length ≤ 1000000 := by rw [hD]; exact hr
  rw [cw_enter T_Xq2 (by simp), run_unfold Xq2.main.eq_1]
  by_cases c1 : X.length = 1
  ·obtain ⟨x, rfl⟩ : ∃ x, X = [x] := by
    match X, c1 with
    | [y], _ => exact ⟨y, rfl⟩
   have hc : ((([x] : List (List Val)).length : Nat) : Int) = 1 := by simp
   obtain ⟨ha1, hx⟩ := seg_get hD (i := 0) (k := a) (by omega) (by simp)
   have key : Run T (Ret [] R) (.inLoop Xq2.b0 :: Xq2.k0) (mkE 220 [(0, dat n), (1, .int .i64 a), (4, ordC), (10, .int .i64 m), (11, .int .i64 b)]) (zS D) := by
    refine srch0 hn hDl (by omega) ha1 hx hr' sy (fun i i1 i2 lo hi => ?_) (b - m) m b (Nat.le_refl _) (Nat.le_refl _) (by omega) (Nat.le_refl _) (fun q _ h1 h2 => absurd h2 (by omega)) (fun q _ h1 h2 => absurd h2 (by omega))
    obtain ⟨Y1, Y2, rfl, hY1⟩ := cut_at (l := Y) (k := i - m) (by omega)
    rw [List.length_append] at hb
    have e1 : D = (P ++ [x]) ++ (Y1 ++ (Y2 ++ S)) := by rw [hD]; simp
    have e2 : D = (P ++ [x] ++ Y1) ++ (Y2 ++ S) := by rw [hD]; simp
    have nx := next (Y1 ++ x :: Y2) ?_ ?_
    ·have e3 : P ++ (Y1 ++ x :: Y2 ++ S) = P ++ ([] ++ (Y1 ++ x :: (Y2 ++ S))) := by simp
     rw [e3] at nx
     have hb1 := bub1 (n := n) (a := a) (i := i) (x := x) (P := P) (S := Y2 ++ S) hn ha Y1 [] (by simp at hm ⊢; omega) (by simp; omega) nx
     have e4 : P ++ ([] ++ x :: (Y1 ++ (Y2 ++ S))) = D := by rw [hD]; simp
     rw [e4] at hb1
     exact hb1
    ·refine srtR_app (srtR_left hY) (List.pairwise_cons.2 ⟨fun v hv => ?_, srtR_right hY⟩) fun u hu v hv => ?_
     ·obtain ⟨k, k1, k2, k3, rfl⟩ := seg_mem e2 hv
      simp only [List.length_append, List.length_cons, List.length_nil] at k2 k3 hm
      exact cmpR_tot (hi k k1 (by omega) (by omega))
     ·rcases List.mem_cons.1 hv with rfl | hv
      ·obtain ⟨k, k1, k2, k3, rfl⟩ := seg_mem e1 hu
       simp only [List.length_append, List.length_cons, List.length_nil] at k2 k3 hm
       exact Int.le_of_lt (lo k k1 (by omega) (by omega))
      ·exact srtR_cross hY u hu v hv
    ·exact List.perm_middle
   rw [← hD]
   simp (maxSteps := 2000000) only [go_sem, w1, hc]
   exact key
  ·have hc : ¬ ((X.length : Nat) : Int) = 1 := by omega
   by_cases c2 : Y.length = 1
   ·obtain ⟨y, rfl⟩ : ∃ y, Y = [y] := by
     match Y, c2 with
     | [y], _ => exact ⟨y, rfl⟩
    have hc2 : ((([y] : List (List Val)).length : Nat) : Int) = 1 := by simp
    obtain ⟨hm1, hy⟩ := seg_get hD2 (i := 0) (k := m) (by simp; omega) (by simp)
    have key : Run T (Ret [] R) (.inLoop Xq2.b2 :: Xq2.k2) (mkE 220 [(0, dat n), (2, .int .i64 m), (4, ordC), (14, .int .i64 a), (15, .int .i64 m)]) (zS D) := by
     refine srch2 (b := b) hn hDl (by omega) hm1 hy hr' sx (fun i i1 i2 lo hi => ?_) (m - a) a m (Nat.le_refl _) (Nat.le_refl _) (by omega) (Nat.le_refl _) (fun q _ h1 h2 => absurd h2 (by omega)) (fun q _ h1 h2 => absurd h2 (by omega))
     obtain ⟨X1, X2, rfl, hX1⟩ := cut_at (l := X) (k := i - a) (by omega)
     rw [List.length_append] at hm
     have e1 : D = P ++ (X1 ++ (X2 ++ ([y] ++ S))) := by rw [hD]; simp
     have e2 : D = (P ++ X1) ++ (X2 ++ ([y] ++ S)) := by rw [hD]; simp
     have nx := next (X1 ++ y :: X2) ?_ ?_
     ·have e3 : P ++ (X1 ++ y :: X2 ++ S) = P ++ (X1 ++ y :: (X2 ++ ([] ++ S))) := by simp
      rw [e3] at nx
      have hb3 := bub3 (n := n) (a := a) (i := i) (y := y) (P := P) (V1 := X1) (S := S) hn ha (by omega) X2.length X2 [] rfl (by simp at hb ⊢; omega) nx
      have e4 : P ++ (X1 ++ (X2 ++ y :: ([] ++ S))) = D := by rw [hD]; simp
      rw [e4, show i + X2.length = m by omega] at hb3
      exact hb3
     ·refine srtR_app (srtR_left hX) (List.pairwise_cons.2 ⟨fun v hv => ?_, srtR_right hX⟩) fun u hu v hv => ?_
      ·obtain ⟨k, k1, k2, k3, rfl⟩ := seg_mem e2 hv
       simp only [List.length_append, List.length_cons, List.length_nil] at k2 k3
       exact Int.le_of_lt (hi k k1 (by omega) (by omega))
      ·rcases List.mem_cons.1 hv with rfl | hv
       ·obtain ⟨k, k1, k2, k3, rfl⟩ := seg_mem e1 hu
        exact cmpR_tot (lo k k1 (by omega) (by omega))
       ·exact srtR_cross hX u hu v hv
     ·refine List.perm_middle.trans ?_
      exact (List.perm_append_comm (l₁ := [y]) (l₂ := X1 ++ X2))
    rw [← hD]
    simp (maxSteps := 2000000) only [go_sem, w1, hc, w2, hc2, run_unfold Xq2.c0.eq_1, run_unfold Xq2.c1.eq_1, run_unfold Xq2.c10.eq_1, run_unfold Xq2.c11.eq_1, run_unfold Xq2.c2.eq_1, run_unfold Xq2.c3.eq_1, run_unfold Xq2.c4.eq_1, run_unfold Xq2.c5.eq_1, run_unfold Xq2.c6.eq_1, run_unfold Xq2.c7.eq_1, run_unfold Xq2.c8.eq_1, run_unfold Xq2.c9.eq_1, Xq2.k0, Xq2.k1, Xq2.k2, Xq2.k3, Xq2.k4]
    exact key
   ·have hc2 : ¬ ((Y.length : Nat) : Int) = 1 := by omega
    have hf := fun {σ : Sto} => half (i := a) (j := b) (by omega) (σ := σ)
    obtain ⟨mid, hmid⟩ : ∃ mid, mid = (a + b) / 2 := ⟨_, rfl⟩
    rw [← hmid] at hf
    have w3 : IntKind.i64.wrap (mid : Int) = (mid : Int) := wrap_nat (by omega)
    have w4 : IntKind.i64.wrap ((mid : Int) + (m : Int)) = ((mid + m : Nat) : Int) := by rw [wrap_i64 (by omega) (by omega)]; omega
    have w5 : IntKind.i64.wrap (((mid + m : Nat) : Int) - 1) = ((mid + m - 1 : Nat) : Int) := by rw [wrap_i64 (by omega) (by omega)]; omega
    by_cases c3 : mid < m
    ·have hlt : ((mid : Nat) : Int) < (m : Int) := by omega
     have w6 : IntKind.i64.wrap (((mid + m : Nat) : Int) - (b : Int)) = ((mid + m - b : Nat) : Int) := by rw [wrap_i64 (by omega) (by omega)]; omega
     have key := srch4 (Q := Ret [] R) (a := a) (m := m) (b := b) (mid := mid) (nn := mid + m) (p := mid + m - 1) (s0 := mid + m - b) (r0 := mid) hn hDl (by omega) hr' sx sy (by omega) (by omega) (by omega) (fun c h1 h2 => ⟨by omega, by omega, by omega⟩)
      (fun i i1 i2 lo hi => symEnd (s0 := mid + m - b) (r0 := mid) ih hn (by omega) (by omega) hX hY ha hm hb hl rfl (by omega) (.inr (by omega)) (.inr rfl) (by omega) (by omega) (by omega) (by omega) (by omega) i1 i2 hr next hD lo hi)
      (b - a) (mid + m - b) mid (by omega) (by omega) (by omega) (by omega) (fun q _ _ h1 h2 => absurd h2 (by omega)) (fun q _ _ h1 h2 => absurd h2 (by omega))
     rw [← hD]
     simp (maxSteps := 2000000) only [go_sem, w1, hc, w2, hc2, hf, w3, w4, w5, w6, hlt, run_unfold Xq2.c0.eq_1, run_unfold Xq2.c1.eq_1, run_unfold Xq2.c10.eq_1, run_unfold Xq2.c11.eq_1, run_unfold Xq2.c2.eq_1, run_unfold Xq2.c3.eq_1, run_unfold Xq2.c4.eq_1, run_unfold Xq2.c5.eq_1, run_unfold Xq2.c6.eq_1, run_unfold Xq2.c7.eq_1, run_unfold Xq2.c8.eq_1, run_unfold Xq2.c9.eq_1, Xq2.k0, Xq2.k1, Xq2.k2, Xq2.k3, Xq2.k4]
     exact key
    ·have hlt : ¬ ((mid : Nat) : Int) < (m : Int) := by omega
     have key := srch4 (Q := Ret [] R) (a := a) (m := m) (b := b) (mid := mid) (nn := mid + m) (p := mid + m - 1) (s0 := a) (r0 := m) hn hDl (by omega) hr' sx sy (by omega) (by omega) (by omega) (fun c h1 h2 => ⟨by omega, by omega, by omega⟩)
      (fun i i1 i2 lo hi => symEnd (s0 := a) (r0 := m) ih hn (by omega) (by omega) hX hY ha hm hb hl rfl (by omega) (.inl rfl) (.inl rfl) (by omega) (by omega) (by omega) (by omega) (by omega) i1 i2 hr next hD lo hi)
      (b - a) a m (by omega) (by omega) (by omega) (by omega) (fun q _ _ h1 h2 => absurd h2 (by omega)) (fun q _ _ h1 h2 => absurd h2 (by omega))
     rw [← hD]
     simp (maxSteps := 2000000) only [go_sem, w1, hc, w2, hc2, hf, w3, w4, w5, hlt, run_unfold Xq2.c0.eq_1, run_unfold Xq2.c1.eq_1, run_unfold Xq2.c10.eq_1, run_unfold Xq2.c11.eq_1, run_unfold Xq2.c2.eq_1, run_unfold Xq2.c3.eq_1, run_unfold Xq2.c4.eq_1, run_unfold Xq2.c5.eq_1, run_unfold Xq2.c6.eq_1, run_unfold Xq2.c7.eq_1, run_unfold Xq2.c8.eq_1, run_unfold Xq2.c9.eq_1, Xq2.k0, Xq2.k1, Xq2.k2, Xq2.k3, Xq2.k4]
     exact key
end Go.Abs
/- Walks of chapter 40: slices.SortStableFunc of rows, query.Sort. -/
set_option linter.unusedSimpArgs false
set_option linter.unusedVariables false
set_option maxRecDepth 100000
set_option maxHeartbeats 4000000
namespace Go.Abs
open Go
attribute [local go_sem_proc] Nat.reduceLT Nat.reduceEqDiff Nat.reduceLeDiff Nat.reduceAdd Nat.reduceSub Nat.reduceMul Int.reduceLT Int.reduceLE Int.reduceEq Int.reduceNeg
attribute [local go_sem_proc ↓] reduceIte

theorem symMerge_call {n a m b : Nat} {P X Y S D : List (List Val)} {Q : Post3} {kk : List Item} {os : List AOper} {d : Option Nat} {e : Env} (hn : n ≤ 100000) (hX0 : 0 < X.length) (hY0 : 0 < Y.length) (hX : SrtR X) (hY : SrtR Y) (ha : P.length = a) (hm : a + X.length = m) (hb : m + Y.length = b) (hl : b + S.length = n) (hr : ∀ r ∈ D, r.length ≤ 1000000) (hD : D = P ++ (X ++ (Y ++ S)))
  (next : ∀ Z, SrtR Z → Z.Perm (X ++ Y) → Run T Q (.ops os :: kk) (put e d (.tup [])) (zS (P ++ (Z ++ S)))) :
  CallK T Q kk os d e (zS D) false i_Xq2 [dat n, .int .i64 a, .int .i64 m, .int .i64 b, ordC] := by
 subst hD
 unfold CallK
 exact symMerge hn (X.length + Y.length) (Nat.le_refl _) hX0 hY0 hX hY ha hm hb hl hr next

theorem st2 {n s : Nat} {D0 : List (List Val)} {Q : Post3} (hn : n ≤ 100000) (hs0 : 0 < s) (hs : s < n) (hr : ∀ r ∈ D0, r.length ≤ 1000000)
  (next : ∀ Z, Ch (2 * s) Z → Z.Perm D0 → Run T Q (.inLoop Xq4.b1 :: Xq4.k1) (mkE 63 [(0, dat n), (1, .int .i64 n), (2, ordC), (6, .int .i64 ((2 * s : Nat) : Int))]) (zS Z)) :
  ∀ (c : Nat) (P U : List (List Val)) (a b : Nat), U.length ≤ c → P.length = a → b = a + 2 * s → a + U.length = n → Ch s U → (∀ V, Ch (2 * s) V → Ch (2 * s) (P ++ V)) → (P ++ U).Perm D0 →
  Run T Q (.inLoop Xq4.b2 :: Xq4.k2 1) (mkE 63 [(0, dat n), (1, .int .i64 n), (2, ordC), (6, .int .i64 s), (7, .int .i64 a), (8, .int .i64 b)]) (zS (P ++ U)) := by
 have w2 : IntKind.i64.wrap (2 * (s : Int)) = ((2 * s : Nat) : Int) := by rw [wrap_i64 (by omega) (by omega)]; omega
 have w4 : IntKind.i64.wrap ((s : Int) * 2) = ((2 * s : Nat) : Int) := by rw [wrap_i64 (by omega) (by omega)]; omega
 have exit : ∀ (P U : List (List Val)) (a b : Nat), P.length = a → b = a + 2 * s → a + U.length = n → Ch s U → (∀ V, Ch (2 * s) V → Ch (2 * s) (P ++ V)) → (P ++ U).Perm D0 → ¬ b ≤ n →
   Run T Q (.inLoop Xq4.b2 :: Xq4.k2 1) (mkE 63 [(0, dat n), (1, .int .i64 n), (2, ordC), (6, .int .i64 s), (7, .int .i64 a), (8, .int .i64 b)]) (zS (P ++ U)) := by
  intro P U a b ha hb hl hU hP hp hlt
  have hlt' : ¬ ((b : Nat) : Int) ≤ (n : Int) := by omega
  have w1 : IntKind.i64.wrap ((a : Int) + (s : Int)) = ((a + s : Nat) : Int) := by rw [wrap_i64 (by omega) (by omega)]; omega
  by_cases h : a + s < n
  ·have h' : ((a + s : Nat) : Int) < (n : Int) := by omega
   obtain ⟨X, Y, rfl, hX, sX, sY⟩ := hU.rest (by omega) (by omega)
   rw [List.length_append] at hl
   rw [run_round, run_unfold Xq4.b2.eq_1]
   simp (maxSteps := 2000000) only [go_sem, hlt', w1, h', Xq4.k2, run_unfold Xq4.c0.eq_1, run_unfold Xq4.c1.eq_1, run_unfold Xq4.c2.eq_1, run_unfold Xq4.c3.eq_1, Xq4.k0, Xq4.k1, Xq4.k2]
   refine symMerge_call (P := P) (X := X) (Y := Y) (S := []) hn (by omega) (by omega) sX sY ha (by omega) (by omega) (by simp) (fun r h => hr r (hp.mem_iff.1 h)) (by simp) fun Z z1 z2 => ?_
   have hz := z2.length_eq
   rw [List.length_append] at hz
   have nx := next (P ++ Z) (hP Z (.last (by omega) z1)) ((z2.append_left P).trans hp)
   rw [List.append_nil]
   simp (maxSteps := 2000000) only [go_sem, w4, run_unfold Xq4.c0.eq_1, run_unfold Xq4.c1.eq_1, run_unfold Xq4.c2.eq_1, run_unfold Xq4.c3.eq_1, Xq4.k0, Xq4.k1, Xq4.k2]
   first | exact nx | exact ⟨v_names_map (fun _ => sv_pure) _, nx⟩
  ·have h' : ¬ ((a + s : Nat) : Int) < (n : Int) := by omega
   have nx := next (P ++ U) (hP U (.last (by omega) (hU.all (by omega)))) hp
   rw [run_round, run_unfold Xq4.b2.eq_1]
   simp (maxSteps := 2000000) only [go_sem, hlt', w1, h', w4, Xq4.k2, run_unfold Xq4.c0.eq_1, run_unfold Xq4.c1.eq_1, run_unfold Xq4.c2.eq_1, run_unfold Xq4.c3.eq_1, Xq4.k0, Xq4.k1, Xq4.k2]
   first | exact nx | exact ⟨v_names_map (fun _ => sv_pure) _, nx⟩
 intro c
 induction c with
 | zero =>
  intro P U a b hc ha hb hl hU hP hp
  exact exit P U a b ha hb hl hU hP hp (by omega)
 | succ c ih =>
  intro P U a b hc ha hb hl hU hP hp
  by_cases hlt : b ≤ n
  ·have hlt' : ((b : Nat) : Int) ≤ (n : Int) := by omega
   obtain ⟨X, Y, U', rfl, hX, hY, sX, sY, hU'⟩ := hU.two (by omega)
   simp only [List.length_append] at hl hc
   have w1 : IntKind.i64.wrap ((a : Int) + (s : Int)) = ((a + s : Nat) : Int) := by rw [wrap_i64 (by omega) (by omega)]; omega
   have w3 : IntKind.i64.wrap ((b : Int) + ((2 * s : Nat) : Int)) = ((b + 2 * s : Nat) : Int) := by rw [wrap_i64 (by omega) (by omega)]; omega
   rw [run_round, run_unfold Xq4.b2.eq_1]
   simp (maxSteps := 2000000) only [go_sem, hlt', w1]
   refine symMerge_call (P := P) (X := X) (Y := Y) (S := U') hn (by omega) (by omega) sX sY ha (by omega) (by omega) (by omega) (fun r h => hr r (hp.mem_iff.1 h)) (by simp) fun Z z1 z2 => ?_
   have hz := z2.length_eq
   rw [List.length_append] at hz
   have ih' := ih (P ++ Z) U' b (b + 2 * s) (by omega) (by rw [List.length_append]; omega) (by omega) (by omega) hU' (fun V hV => by
    rw [List.append_assoc]
    exact hP _ (.cons (by omega) z1 hV)) (by
    refine List.Perm.trans ?_ hp
    rw [List.append_assoc, ← List.append_assoc X]
    exact (z2.append_right U').append_left P)
   have e : P ++ (Z ++ U') = P ++ Z ++ U' := by simp
   rw [e]
   simp (maxSteps := 2000000) only [go_sem, w2, w3]
   first | exact ih' | exact ⟨v_names_map (fun _ => sv_pure) _, ih'⟩
  ·exact exit P U a b ha hb hl hU hP hp hlt

theorem st1 {n : Nat} {D0 : List (List Val)} {R : Post} (hn : n ≤ 100000) (hr : ∀ r ∈ D0, r.length ≤ 1000000) (next : ∀ Z, SrtR Z → Z.Perm D0 → R (.tup []) (zS Z)) :
  ∀ (c : Nat) (s : Nat) (D : List (List Val)), n - s ≤ c → 0 < s → s ≤ 1000000 → D.length = n → Ch s D → D.Perm D0 →
  Run T (Ret [] R) (.inLoop Xq4.b1 :: Xq4.k1) (mkE 63 [(0, dat n), (1, .int .i64 n), (2, ordC), (6, .int .i64 s)]) (zS D) := by
 intro c
 induction c with
 | zero =>
  intro s D hc hs0 hs1 hl hD hp
  have h : ¬ ((s : Nat) : Int) < (n : Int) := by omega
  have nx := next D (hD.all (by omega)) hp
  rw [run_round, run_unfold Xq4.b1.eq_1]
  simp (maxSteps := 2000000) only [go_sem, h, run_unfold Xq4.c0.eq_1, run_unfold Xq4.c1.eq_1, run_unfold Xq4.c2.eq_1, run_unfold Xq4.c3.eq_1, Xq4.k0, Xq4.k1, Xq4.k2]
  exact nx
 | succ c ih =>
  intro s D hc hs0 hs1 hl hD hp
  by_cases h1 : s < n
  ·have h : ((s : Nat) : Int) < (n : Int) := by omega
   have w2 : IntKind.i64.wrap (2 * (s : Int)) = ((2 * s : Nat) : Int) := by rw [wrap_i64 (by omega) (by omega)]; omega
   have h2 := st2 (n := n) (s := s) (D0 := D0) (Q := Ret [] R) hn hs0 h1 hr (fun Z z1 z2 => ih (2 * s) Z (by omega) (by omega) (by omega) (by rw [z2.length_eq, ← hp.length_eq]; exact hl) z1 z2) n [] D 0 (2 * s) (by omega) rfl (by omega) (by omega) hD (fun V hV => hV) hp
   rw [run_round, run_unfold Xq4.b1.eq_1]
   simp (maxSteps := 2000000) only [go_sem, h, w2]
   exact h2
  ·have h : ¬ ((s : Nat) : Int) < (n : Int) := by omega
   have nx := next D (hD.all (by omega)) hp
   rw [run_round, run_unfold Xq4.b1.eq_1]
   simp (maxSteps := 2000000) only [go_sem, h, run_unfold Xq4.c0.eq_1, run_unfold Xq4.c1.eq_1, run_unfold Xq4.c2.eq_1, run_unfold Xq4.c3.eq_1, Xq4.k0, Xq4.k1, Xq4.k2]
   exact nx
theorem st0 {n : Nat} {D0 : List (List Val)} {R : Post} (hn : n ≤ 100000) (hr : ∀ r ∈ D0, r.length ≤ 1000000) (next : ∀ Z, SrtR Z → Z.Perm D0 → R (.tup []) (zS Z)) :
  ∀ (c : Nat) (P U : List (List Val)) (a b : Nat), U.length ≤ c → P.length = a → b = a + 20 → a + U.length = n → (∀ V, Ch 20 V → Ch 20 (P ++ V)) → (P ++ U).Perm D0 →
  Run T (Ret [] R) (.inLoop Xq4.b0 :: Xq4.k0) (mkE 63 [(0, dat n), (1, .int .i64 n), (2, ordC), (6, .int .i64 20), (7, .int .i64 a), (8, .int .i64 b)]) (zS (P ++ U)) := by
 have exit : ∀ (P U : List (List Val)) (a b : Nat), P.length = a → b = a + 20 → a + U.length = n → (∀ V, Ch 20 V → Ch 20 (P ++ V)) → (P ++ U).Perm D0 → ¬ b ≤ n →
   Run T (Ret [] R) (.inLoop Xq4.b0 :: Xq4.k0) (mkE 63 [(0, dat n), (1, .int .i64 n), (2, ordC), (6, .int .i64 20), (7, .int .i64 a), (8, .int .i64 b)]) (zS (P ++ U)) := by
  intro P U a b ha hb hl hP hp hlt
  have hlt' : ¬ ((b : Nat) : Int) ≤ (n : Int) := by omega
  rw [run_round, run_unfold Xq4.b0.eq_1]
  simp (maxSteps := 2000000) only [go_sem, hlt', run_unfold Xq4.c0.eq_1, run_unfold Xq4.c1.eq_1, run_unfold Xq4.c2.eq_1, run_unfold Xq4.c3.eq_1, Xq4.k0, Xq4.k1, Xq4.k2]
  refine insertion_call (P := P) (X := U) (S := []) hn ha hl (by simp) (fun r h => hr r (hp.mem_iff.1 (by simp [h]))) (by simp) fun Z z1 z2 => ?_
  have hz := z2.length_eq
  have h1 := st1 hn hr next n 20 (P ++ Z) (by omega) (by omega) (by omega) (by rw [List.length_append]; omega) (hP Z (.last (by omega) z1)) ((z2.append_left P).trans hp)
  rw [List.append_nil]
  simp (maxSteps := 2000000) only [go_sem, run_unfold Xq4.c0.eq_1, run_unfold Xq4.c1.eq_1, run_unfold Xq4.c2.eq_1, run_unfold Xq4.c3.eq_1, Xq4.k0, Xq4.k1, Xq4.k2]
  exact h1
 intro c
 induction c with
 | zero =>
  intro P U a b hc ha hb hl hP hp
  exact exit P U a b ha hb hl hP hp (by omega)
 | succ c ih =>
  intro P U a b hc ha hb hl hP hp
  by_cases hlt : b ≤ n
  ·have hlt' : ((b : Nat) : Int) ≤ (n : Int) := by omega
   obtain ⟨X, U', rfl, hX⟩ := cut_at (l := U) (k := 20) (by omega)
   simp only [List.length_append] at hl hc
   have w3 : IntKind.i64.wrap ((b : Int) + 20) = ((b + 20 : Nat) : Int) := by rw [wrap_i64 (by omega) (by omega)]; omega
   rw [run_round, run_unfold Xq4.b0.eq_1]
   simp (maxSteps := 2000000) only [go_sem, hlt']
   refine insertion_call (P := P) (X := X) (S := U') hn ha (by omega) (by omega) (fun r h => hr r (hp.mem_iff.1 (by simp [h]))) (by simp) fun Z z1 z2 => ?_
   have hz := z2.length_eq
   have ih' := ih (P ++ Z) U' b (b + 20) (by omega) (by rw [List.length_append]; omega) (by omega) (by omega) (fun V hV => by
    rw [List.append_assoc]
    exact hP _ (.cons (by omega) z1 hV)) (by
    refine List.Perm.trans ?_ hp
    rw [List.append_assoc]
    exact (z2.append_right U').append_left P)
   have e : P ++ (Z ++ U') = P ++ Z ++ U' := by simp
   rw [e]
   simp (maxSteps := 2000000) only [go_sem, w3]
   first | exact ih' | exact ⟨v_names_map (fun _ => sv_pure) _, ih'⟩
  ·exact exit P U a b ha hb hl hP hp hlt
theorem sortStable {n : Nat} {D : List (List Val)} {R : Post} (hn : n ≤ 100000) (hl : D.length = n) (hr : ∀ r ∈ D, r.length ≤ 1000000) (next : ∀ Z, SrtR Z → Z.Perm D → R (.tup []) (zS Z)) :
  Cw T false i_Xq3 [dat n, ordC] [] (zS D) R := by
 rw [cw_enter T_Xq3 (by simp), run_unfold Xq3.main.eq_1]
 simp (maxSteps := 2000000) only [go_sem, hl, List.length_map]
 unfold CallK
 rw [cw_enter T_Xq4 (by simp), run_unfold Xq4.main.eq_1]
 have h0 := st0 hn hr next n [] D 0 20 (by omega) rfl rfl (by omega) (fun V h => h) (List.Perm.refl _)
 simp (maxSteps := 2000000) only [go_sem, hl]
 exact h0
theorem sortStable_call {n : Nat} {D : List (List Val)} {Q : Post3} {kk : List Item} {os : List AOper} {d : Option Nat} {e : Env} (hn : n ≤ 100000) (hl : D.length = n) (hr : ∀ r ∈ D, r.length ≤ 1000000) (next : ∀ Z, SrtR Z → Z.Perm D → Run T Q (.ops os :: kk) (put e d (.tup [])) (zS Z)) :
  CallK T Q kk os d e (zS D) false i_Xq3 [dat n, ordC] := by
 unfold CallK
 exact sortStable hn hl hr next
end Go.Abs
/- Walks of chapter 40: JoinPartners. -/
set_option linter.unusedSimpArgs false
set_option linter.unusedVariables false
set_option maxRecDepth 100000
set_option maxHeartbeats 8000000
namespace Go.Abs
open Go
attribute [local go_sem_proc] Nat.reduceLT Nat.reduceEqDiff Nat.reduceLeDiff Nat.reduceAdd Nat.reduceSub Nat.reduceMul Int.reduceLT Int.reduceLE Int.reduceEq Int.reduceNeg
attribute [local go_sem_proc ↓] reduceIte

theorem slice_sv_one {α : Type} {g : α → AVal} {l : List α} {kd kd' : IntKind} {k n : Nat} {σ : Sto} (h : n < l.length) : sliceV k (sv k .lst (l.map g)) (some (.int kd (n : Int))) (some (.int kd' ((n + 1 : Nat) : Int))) none σ = some (sv k .lst ([l[n]].map g), σ) := by
 rw [sv_lst, slice_mid (by omega) (by rw [List.length_map]; omega), sv_lst]
 congr 3
 rw [← List.map_take, ← List.map_drop]
 congr 1
 rw [List.take_succ_eq_append_getElem h, List.drop_append_of_le_length (by rw [List.length_take]; omega)]
 simp
theorem one_sub {α : Type} {l : List α} {n : Nat} (h : n < l.length) : [l[n]].Sublist l := by
 exact List.singleton_sublist.2 (List.getElem_mem h)
theorem one_len {p : SlF × List Val} {b : Rows} {i j : Int} : (0 : Int) < ((joinL [p] b i j (-1)).length : Nat) ↔ hasP b i j p.2 = true := by
 rw [join_one, List.length_map]
 cases h : hasP b i j p.2
 ·rw [has_nil.1 h]; simp
 ·have hn : b.filter (partP p.2 i j) ≠ [] := fun e => by rw [has_nil.2 e] at h; cases h
  have := List.length_pos_iff.2 hn
  exact ⟨fun _ => rfl, fun _ => by omega⟩

abbrev pS (z : Cas) (a b S U : Rows) (J : List (List Val)) (i j : Int) : Sto := [.cells false [bytesA z.fa z.a, bytesA z.fb z.b, .int .u8 (z.wa : Int), .int .u8 (z.wb : Int), .int .u8 (z.o0 : Int), .int .u8 (z.o1 : Int)],
 .cells false [rowsA .lst a, rowsA .lst b, .int .i64 i, .int .i64 j], .cells false [rowsA (flR S) S, .int .i64 0], .cells false [rowsA (flR U) U, .int .i64 0], .cells false [rowsA (flO J) (lstR J), .int .i64 0]]
abbrev pE (l : List (Nat × AVal)) : Env := mkE 205 ([(1, .ptr 0 6 0), (3, .bool true), (4, .ptr 1 4 0), (5, .ptr 2 2 0), (6, .ptr 3 2 0), (7, .ptr 4 2 0)] ++ l)

theorem semi_one {x : List Val} {b : Rows} {g : SlF} {m n : Nat} {i j : Int} (h : Two [(.lst, x)] b m n i j) {Q : Post3} {k : List Item} {os : List AOper} {d : Option Nat} {e : Env} {σ : Sto} :
  CallK T Q k os d e σ true i_Xq66 [.list 1 [rowA .lst x], rowsA g b, onA i j] ↔ Run T Q (.ops os :: k) (put e d (.agg [rowsA (flR (someR [(.lst, x)] b i j true)) (someR [(.lst, x)] b i j true), .int .i64 0])) σ := by
 have := Xq66_call (f := .lst) (g := g) h.ok (Q := Q) (k := k) (os := os) (d := d) (e := e) (σ := σ)
 rwa [rowsA, sv_lst] at this

theorem someR_one {x : List Val} {b : Rows} {i j : Int} (h : hasP b i j x = true) : someR [(.lst, x)] b i j true = [(.lst, x)] := by
 simp [someR, h]
theorem partners_rows {z : Cas} {a b : Rows} {i j : Int} (h : Two a b z.m z.n i j) : ∀ q, q ≤ (joinL a b i j (-1)).length →
  Run T (Res [.tmp 2] (.bool true)) (.inLoop Xq18.b1 :: Xq18.k1) (pE [(8, .int .i64 ((someR a b i j true).length : Nat)), (9, .int .i64 ((someR a b i j false).length : Nat)), (12, .int .i64 (z.m : Nat)), (13, .int .i64 q)]) (pS z a b (someR a b i j true) (someR a b i j false) (joinL a b i j (-1)) i j) := by
 have hlen := h.len
 refine up_ind ?_ fun q hq ih => ?_
 ·rw [run_round, run_unfold Xq18.b1.eq_1]
  simp (maxSteps := 2000000) only [go_sem, pE, List.cons_append, List.nil_append, run_unfold Xq18.c0.eq_1, run_unfold Xq18.c1.eq_1, run_unfold Xq18.c2.eq_1, run_unfold Xq18.c3.eq_1, Xq18.k0, Xq18.k1, Int.lt_irrefl]
  done
 ·rw [run_round, run_unfold Xq18.b1.eq_1]
  obtain ⟨p, hp, p2, hp2, e, hpart⟩ := join_mem (List.getElem_mem hq)
  have hpl := h.ha.w p hp
  have hpl2 := h.hb.w p2 hp2
  have m3 := h.hm
  have n3 := h.hn
  obtain ⟨fp, u⟩ := p
  obtain ⟨fq, v⟩ := p2
  simp only at hpl hpl2 e hpart
  generalize hr : (joinL a b i j (-1))[q] = r at e
  have hrl : r.length = z.m + z.n := by rw [e, List.length_append, hpl, hpl2]
  have hc := hpart
  simp only [partP, Bool.and_eq_true, Bool.not_eq_true', decide_eq_false_iff_not, decide_eq_true_eq] at hc
  have hi : 0 ≤ i ∧ i < r.length := ⟨h.i0, by have := h.im; omega⟩
  have hj : 0 ≤ (z.m : Int) + j ∧ (z.m : Int) + j < r.length := ⟨by have := h.j0; omega, by have := h.jn; omega⟩
  have ci : colN r i = colN u i := by
   have := h.im
   have := h.i0
   unfold colN; rw [e, List.getD_eq_getElem?_getD, List.getD_eq_getElem?_getD, List.getElem?_append_left (by omega)]
  have cj : colN r ((z.m : Int) + j) = colN v j := by
   have := h.jn
   have := h.j0
   unfold colN; rw [e, List.getD_eq_getElem?_getD, List.getD_eq_getElem?_getD, List.getElem?_append_right (by omega)]
   congr 2; omega
  have hk : ¬ (colN r i).k = 0 := by rw [ci]; exact hc.1
  have heq : decide (colN r i = colN r ((z.m : Int) + j)) = true := by rw [ci, cj]; exact decide_eq_true hc.2
  have htk : r.take z.m = u := by rw [e, ← hpl]; simp
  have hsemi : Two [(.lst, u)] b z.m z.n i j := ⟨⟨by simp, fun p hp => by simp at hp; subst hp; exact hpl, fun p hp => by simp at hp; subst hp; exact fun w hw => h.ha.s (fp, u) hp w hw⟩, h.hb, h.hm, h.hn, h.i0, h.j0, h.im, h.jn⟩
  have hhas : hasP b i j u = true := by rw [hasP, List.any_eq_true]; exact ⟨_, hp2, hpart⟩
  have hs1 := someR_one (b := b) (i := i) (j := j) hhas
  have a1 := fun {σ : Sto} => @iaddrV_int' 3 .lst Val (fun v => .agg [.int .i64 v.k, .int .i64 v.i, .str v.s]) r .i64 i σ hi
  have a2 := fun {σ : Sto} => @iaddrV_int' 3 .lst Val (fun v => .agg [.int .i64 v.k, .int .i64 v.i, .str v.s]) r .i64 ((z.m : Int) + j) σ hj
  have hg : (lstR (joinL a b i j (-1)))[q]'(by rw [List.length_map]; exact hq) = (.lst, r) := by rw [← hr]; exact List.getElem_map ..
  simp only [colN_get hi] at a1
  simp only [colN_get hj] at a2
  have hw : IntKind.i64.wrap (IntKind.i64.wrap ((z.m : Int) + 1) + IntKind.i64.wrap ((z.wb : Int).tmod 3)) = ((z.m + z.n : Nat) : Int) := by
   have h3 : (z.wb : Int).tmod 3 = ((z.wb % 3 : Nat) : Int) := rfl
   rw [h3, wrap_nat (by omega), wrap_succ (by omega), wrap_i64 (by omega) (by omega)]
   show _ = ((z.m + (1 + z.wb % 3) : Nat) : Int)
   omega
  have hw2 : IntKind.i64.wrap ((z.m : Int) + j) = (z.m : Int) + j := wrap_i64 (by have := h.j0; omega) (by have := h.jn; omega)
  have hq1 := wrap_succ (show q < 9223372036854775807 by omega)
  have st := fun {σ : Sto} => @slice_sv_take σ Val (fun v => .agg [.int .i64 v.k, .int .i64 v.i, .str v.s]) r .i64 3 z.m (by omega)
  have cs := fun {Q : Post3} {k : List Item} {os : List AOper} {d : Option Nat} {e : Env} {σ : Sto} => semi_one (g := .lst) hsemi (Q := Q) (k := k) (os := os) (d := d) (e := e) (σ := σ)
  simp (maxSteps := 2000000) only [go_sem, pE, List.cons_append, List.nil_append, hq, hg, hrl, hw, hw2, a1, a2, hk, heq, val_eta, st, htk, cs, hs1, hq1]
  simp only [pE, List.cons_append, List.nil_append] at ih
  exact ih

theorem nested_one {p : SlF × List Val} {b : Rows} {g : SlF} {m n : Nat} {i j : Int} (h : Two [p] b m n i j) {Q : Post3} {k : List Item} {os : List AOper} {d : Option Nat} {e : Env} {σ : Sto} :
  CallK T Q k os d e σ true i_Xq47 [.list 1 [rowA p.1 p.2], rowsA g b, onA i j] ↔ Run T Q (.ops os :: k) (put e d (.agg [rowsA (flO (joinL [p] b i j (-1))) (lstR (joinL [p] b i j (-1))), .int .i64 0])) σ := by
 have := Xq47_call (f := .lst) (g := g) h.ok h.len4 (Q := Q) (k := k) (os := os) (d := d) (e := e) (σ := σ)
 rwa [rowsA, sv_lst] at this
theorem drop_get {α : Type} {l r : List α} {x : Nat} {c : α} (h : l.drop x = c :: r) : ∃ hx : x < l.length, l[x] = c ∧ l.drop (x + 1) = r := by
 have hx : x < l.length := by
  have := congrArg List.length h
  simp only [List.length_drop, List.length_cons] at this; omega
 rw [List.drop_eq_getElem_cons hx] at h
 injection h with h1 h2
 exact ⟨hx, h1, h2⟩
theorem partners_all {z : Cas} {a b S U : Rows} {i j : Int} (hz : z.Ok) (h : Two a b z.m z.n i j) (hS : S = someR a b i j true) (hU : U = someR a b i j false) : ∀ k, k ≤ a.length → ∀ x y, x ≤ S.length → y ≤ U.length → S.drop x = someR (a.drop k) b i j true → U.drop y = someR (a.drop k) b i j false →
  Run T (Res [.tmp 2] (.bool true)) (.inLoop Xq18.b0 :: Xq18.k0) (pE [(8, .int .i64 x), (9, .int .i64 y), (10, .int .i64 k)]) (pS z a b S U (joinL a b i j (-1)) i j) := by
 have la := h.ha.n
 have hw := wid (w := z.wa)
 have hSl : S.length ≤ 20 := by rw [hS]; exact Nat.le_trans (List.length_filter_le ..) la
 have hUl : U.length ≤ 20 := by rw [hU]; exact Nat.le_trans (List.length_filter_le ..) la
 refine up_ind (fun x y hx hy h1 h2 => ?_) fun k hk ih x y hx hy h1 h2 => ?_
 ·have e1 : x = S.length := by
   have := congrArg List.length h1
   simp only [List.length_drop, List.drop_length, someR, List.filter_nil, List.length_nil] at this; omega
  have e2 : y = U.length := by
   have := congrArg List.length h2
   simp only [List.length_drop, List.drop_length, someR, List.filter_nil, List.length_nil] at this; omega
  subst e1 e2
  have hr := partners_rows h 0 (by omega)
  rw [← hS, ← hU] at hr
  simp only [pE, List.cons_append, List.nil_append] at hr
  rw [run_round, run_unfold Xq18.b0.eq_1]
  simp (maxSteps := 2000000) only [go_sem, pE, List.cons_append, List.nil_append, run_unfold Xq18.c0.eq_1, run_unfold Xq18.c1.eq_1, run_unfold Xq18.c2.eq_1, run_unfold Xq18.c3.eq_1, Xq18.k0, Xq18.k1, Int.lt_irrefl, hw]
  exact hr
 ·have hone := h.sub (one_sub hk) (List.Sublist.refl b)
  rw [List.drop_eq_getElem_cons hk] at h1 h2
  have w1 := wrap_succ (show k < 9223372036854775807 by omega)
  have w2 := wrap_succ (show x < 9223372036854775807 by omega)
  have w3 := wrap_succ (show y < 9223372036854775807 by omega)
  have cn := fun {Q : Post3} {kk : List Item} {os : List AOper} {d : Option Nat} {e : Env} {σ : Sto} => nested_one (g := .lst) hone (Q := Q) (k := kk) (os := os) (d := d) (e := e) (σ := σ)
  have hfit := (h.ha.fit h.hm).2 _ (List.getElem_mem hk)
  have hsame : ∀ {Q : Post3} {kk : List Item} {os : List AOper} {d : Option Nat} {e : Env} {σ : Sto}, CallK T Q kk os d e σ true i_Xq63 [rowA a[k].1 a[k].2, rowA a[k].1 a[k].2] ↔ Run T Q (.ops os :: kk) (put e d (.bool true)) σ := by
   intro Q kk os d e σ
   have := Xq63_call (f := a[k].1) (g := a[k].1) (a := a[k].2) (b := a[k].2) hfit.1 hfit.1 hfit.2 hfit.2 (Q := Q) (k := kk) (os := os) (d := d) (e := e) (σ := σ)
   rwa [decide_eq_true rfl] at this
  have so : ∀ {σ : Sto}, sliceV 1 (rowsA .lst a) (some (.int .i64 (k : Int))) (some (.int .i64 ((k + 1 : Nat) : Int))) none σ = some (.list 1 [rowA a[k].1 a[k].2], σ) := by
   intro σ
   exact (slice_sv_one (σ := σ) (g := fun p : SlF × List Val => rowA p.1 p.2) (l := a) (kd := .i64) (kd' := .i64) (k := 1) hk).trans (by rw [sv_lst]; rfl)
  rw [run_round, run_unfold Xq18.b0.eq_1]
  simp only [pE, List.cons_append, List.nil_append] at ih
  cases hp : hasP b i j a[k].2
  ·have hz0 : ¬ ((0 : Int) < ((joinL [a[k]] b i j (-1)).length : Nat)) := by rw [one_len, hp]; simp
   have hz1 : ((joinL [a[k]] b i j (-1)).length : Int) = 0 := by omega
   have h1' : S.drop x = someR (a.drop (k + 1)) b i j true := by rw [h1, someR, List.filter_cons_of_neg (by rw [hp]; decide)]
   have h2' : U.drop y = a[k] :: someR (a.drop (k + 1)) b i j false := by rw [h2, someR, List.filter_cons_of_pos (by rw [hp]; decide)]
   obtain ⟨g1, g2, g3⟩ := drop_get h2'
   have ih' := ih x (y + 1) hx g1 h1' g3
   simp (maxSteps := 2000000) only [go_sem, pE, List.cons_append, List.nil_append, hk, so, w1, w3, cn, hz0, hz1, g1, g2, hsame, run_unfold Xq18.c0.eq_1, run_unfold Xq18.c1.eq_1, run_unfold Xq18.c2.eq_1, run_unfold Xq18.c3.eq_1, Xq18.k0, Xq18.k1]
   exact ih'
  ·have hz0 : ((0 : Int) < ((joinL [a[k]] b i j (-1)).length : Nat)) := one_len.2 hp
   have h2' : U.drop y = someR (a.drop (k + 1)) b i j false := by rw [h2, someR, List.filter_cons_of_neg (by rw [hp]; decide)]
   have h1' : S.drop x = a[k] :: someR (a.drop (k + 1)) b i j true := by rw [h1, someR, List.filter_cons_of_pos (by rw [hp]; decide)]
   obtain ⟨g1, g2, g3⟩ := drop_get h1'
   have ih' := ih (x + 1) y g1 hy g3 h2'
   simp (maxSteps := 2000000) only [go_sem, pE, List.cons_append, List.nil_append, hk, so, w1, w2, cn, hz0, g1, g2, hsame, run_unfold Xq18.c0.eq_1, run_unfold Xq18.c1.eq_1, run_unfold Xq18.c2.eq_1, run_unfold Xq18.c3.eq_1, Xq18.k0, Xq18.k1]
   exact ih'
theorem Xq18_spec {z : Cas} (h : z.Ok) {lv : List Nat} {σ : Sto} {R : Post} : Cw T true i_Xq18 [z.v] lv σ R ↔ R (.bool true) σ := by
 refine cw_intro T_Xq18 (by simp only [go_sem]) (by simp) ?_; rw [run_unfold Xq18.main.eq_1]
 have h2 := z.two
 have hmade := fun {Q : Post3} {k : List Item} {os : List AOper} {d : Option Nat} {e : Env} {σ : Sto} => Xq61_call (z := z) h (Q := Q) (k := k) (os := os) (d := d) (e := e) (σ := σ)
 generalize z.A = a at h2 hmade
 generalize z.B = b at h2 hmade
 generalize z.i = i at h2 hmade
 generalize z.j = j at h2 hmade
 have hl := partners_all h h2 rfl rfl 0 (by omega) 0 0 (by omega) (by omega) rfl rfl
 simp only [pE, List.cons_append, List.nil_append] at hl
 simp (maxSteps := 2000000) only [go_sem, hmade, Xq66_call h2.ok, Xq62_call h2.ok, Xq47_call h2.ok h2.len4]
 exact hl
@[go_sem] theorem Xq18_call {z : Cas} (h : z.Ok) {Q : Post3} {k : List Item} {os : List AOper} {d : Option Nat} {e : Env} {σ : Sto} : CallK T Q k os d e σ true i_Xq18 [z.v] ↔ Run T Q (.ops os :: k) (put e d (.bool true)) σ := Xq18_spec h

end Go.Abs
/- Walks of chapter 40: JoinOuter. -/
set_option linter.unusedSimpArgs false
set_option linter.unusedVariables false
set_option maxRecDepth 100000
set_option maxHeartbeats 8000000
namespace Go.Abs
open Go
attribute [local go_sem_proc] Nat.reduceLT Nat.reduceEqDiff Nat.reduceLeDiff Nat.reduceAdd Nat.reduceSub Nat.reduceMul Int.reduceLT Int.reduceLE Int.reduceEq Int.reduceNeg
attribute [local go_sem_proc ↓] reduceIte

theorem join_lenN {a b : Rows} {i j n : Int} : (joinL a b i j n).length ≤ a.length * (b.length + 1) := by
 induction a with
 | nil => simp [joinL]
 | cons p a ih =>
  have h1 : (jrow (fun x => b.filter (partP x i j)) n p.2).length ≤ b.length + 1 := by
   have := List.length_filter_le (partP p.2 i j) b
   unfold jrow
   split
   ·simp
   ·rw [List.length_map]; exact Nat.le_succ_of_le this
  simp only [joinL, List.flatMap_cons, List.length_append, List.length_cons] at ih ⊢
  refine Nat.le_trans (Nat.add_le_add h1 ih) ?_
  rw [Nat.add_mul, Nat.one_mul, Nat.add_comm]
  exact Nat.le_refl _
theorem Two.lenN {a b : Rows} {m n : Nat} {i j w : Int} (h : Two a b m n i j) : (joinL a b i j w).length ≤ 4096 := by
 refine Nat.le_trans join_lenN ?_
 have h1 := h.ha.n
 have h2 := h.hb.n
 exact Nat.le_trans (Nat.mul_le_mul h1 (Nat.succ_le_succ h2)) (by decide)
theorem Xq40_spec {f g : SlF} {a b : Rows} {i j n : Int} (h : JoinOk a b i j) (h0 : 0 ≤ n) (hn : n ≤ 32) (h4 : (joinL a b i j n).length ≤ 4096) {lv : List Nat} {σ : Sto} {R : Post} : Cw T true i_Xq40 [rowsA f a, rowsA g b, onA i j, .int .i64 n] lv σ R ↔ R (.tup [rowsA (flO (joinL a b i j n)) (lstR (joinL a b i j n)), .int .i64 0]) σ := by
 refine cw_intro T_Xq40 (by simp only [go_sem]) (by simp) ?_; rw [run_unfold Xq40.main.eq_1]
 have e1 : ¬ n < 0 := by omega
 have e2 : ¬ 32 < n := by omega
 simp (maxSteps := 2000000) only [go_sem, Xq58_call h.fa h.fb, fit_all h.hi h.ca, fit_all h.hj h.cb, Xq48_call h.fb h.cb, hash_call h (show n ≤ 1000 by omega) h4, Bool.true_and, e1, e2]
 done
@[go_sem] theorem Xq40_call {f g : SlF} {a b : Rows} {i j n : Int} (h : JoinOk a b i j) (h0 : 0 ≤ n) (hn : n ≤ 32) (h4 : (joinL a b i j n).length ≤ 4096) {Q : Post3} {k : List Item} {os : List AOper} {d : Option Nat} {e : Env} {σ : Sto} : CallK T Q k os d e σ true i_Xq40 [rowsA f a, rowsA g b, onA i j, .int .i64 n] ↔ Run T Q (.ops os :: k) (put e d (.tup [rowsA (flO (joinL a b i j n)) (lstR (joinL a b i j n)), .int .i64 0])) σ := Xq40_spec h h0 hn h4

theorem Xq49_spec {f g : SlF} {a b : Rows} {i j n : Int} (h : JoinOk a b i j) (h0 : 0 ≤ n) (hn : n ≤ 32) (h4 : (joinL a b i j n).length ≤ 4096) {lv : List Nat} {σ : Sto} {R : Post} : Cw T true i_Xq49 [.agg [rowsA f a, rowsA g b, .int .i64 i, .int .i64 j], .int .i64 n] lv σ R ↔ R (.agg [rowsA (flO (joinL a b i j n)) (lstR (joinL a b i j n)), .int .i64 0]) σ := by
 refine cw_intro T_Xq49 (by simp only [go_sem]) (by simp) ?_; rw [run_unfold Xq49.main.eq_1]
 simp (maxSteps := 2000000) only [go_sem, Xq40_call h h0 hn h4]
 done
@[go_sem] theorem Xq49_call {f g : SlF} {a b : Rows} {i j n : Int} (h : JoinOk a b i j) (h0 : 0 ≤ n) (hn : n ≤ 32) (h4 : (joinL a b i j n).length ≤ 4096) {Q : Post3} {k : List Item} {os : List AOper} {d : Option Nat} {e : Env} {σ : Sto} : CallK T Q k os d e σ true i_Xq49 [.agg [rowsA f a, rowsA g b, .int .i64 i, .int .i64 j], .int .i64 n] ↔ Run T Q (.ops os :: k) (put e d (.agg [rowsA (flO (joinL a b i j n)) (lstR (joinL a b i j n)), .int .i64 0])) σ := Xq49_spec h h0 hn h4


theorem apz_row {o : Nat} {x : List Val} {n : Nat} {σ : Sto} (hσ : σ[o]? = some (rowO x)) (hb : x.length + n ≤ 2000000) :
  appendzV 3 32 [.int .i64 0, .int .i64 0, .str ⟨#[]⟩] (refV o x) (.int .i64 (n : Int)) σ = some (refV o (x ++ List.replicate n zV), σ.set o (rowO (x ++ List.replicate n zV))) := by
 have hl := cellsV_len x
 have e : (List.replicate n [AVal.int .i64 0, .int .i64 0, .str ⟨#[]⟩]).flatten = cellsV (List.replicate n zV) := by
  rw [cellsV, List.flatMap_def, List.map_replicate]; rfl
 simp only [appendzV, hσ, Int.toNat_natCast, e]
 rw [if_pos ⟨by omega, by simp only [maxBytes]; omega, by decide, hl, trivial, trivial, trivial, rfl⟩]
 simp only [refV, rowO, cellsV, List.length_append, List.length_replicate, List.flatMap_append]
theorem app_row {o : Nat} {f : SlF} {x : List Val} {σ : Sto} (hσ : σ[o]? = some (.cells false [])) (hb : x.length ≤ 1000000) : appendV 3 32 (.ref o 0 0 0 3) (rowA f x) σ = some (refV o x, σ.set o (rowO x)) := by
 have ha := appendV_structs (σ := σ) (o := o) (k := 3) (bytes := 32) (f := f) (g := fun v : Val => [.int .i64 v.k, .int .i64 v.i, .str v.s]) (X := []) (Y := x) (by decide) (fun _ => rfl) (fun _ => rfl) hσ (by simp only [List.length_nil, maxBytes]; omega)
 simp only [List.length_nil, Nat.zero_mul, List.nil_append] at ha
 exact ha

abbrev oS (z : Cas) (a b : Rows) (O J W : List (List Val)) (i j : Int) (ν : Sto) : Sto := .cells false [bytesA z.fa z.a, bytesA z.fb z.b, .int .u8 (z.wa : Int), .int .u8 (z.wb : Int), .int .u8 (z.o0 : Int), .int .u8 (z.o1 : Int)] ::
 .cells false [rowsA .lst a, rowsA .lst b, .int .i64 i, .int .i64 j] :: .cells false [rowsA (flO O) (lstR O), .int .i64 0] :: .cells false [rowsA (flO J) (lstR J), .int .i64 0] :: rowsSt W :: ν
abbrev oE (n : Nat) (at' : Nat) (w : Nat) (l : List (Nat × AVal)) : Env := mkE 139 ([(3, .bool true), (4, .ptr 1 4 0), (5, .int .i64 (n : Int)), (6, .ptr 2 2 0), (7, .ptr 3 2 0), (8, .int .i64 (at' : Int)), (9, .ref 4 w 0 w 1)] ++ l)

theorem lst_get {X : List (List Val)} {q : Nat} (h : q < X.length) : (lstR X)[q]'(by rw [List.length_map]; exact h) = (.lst, X[q]) := List.getElem_map ..
theorem outer_same {z : Cas} {a b : Rows} {O J Lk rest W1 : List (List Val)} {i j : Int} {n k : Nat} (hL : Lk.length ≤ 1000) (hO : O.length ≤ 5000) (hk : k ≤ 1000) (hW1 : W1.length ≤ 5000)
  (hfit : ∀ r ∈ Lk, Fits r ∧ ∀ v ∈ r, Short v)
  (next : ∀ (at' : Nat), at' ≤ O.length → O.drop at' = rest → Run T (Res [.tmp 2] (.bool true)) (.inLoop Xq24.b0 :: Xq24.k0) (oE n at' W1.length [(10, .int .i64 ((k + 1 : Nat) : Int))]) (oS z a b O J W1 i j [])) :
  ∀ q, q ≤ Lk.length → ∀ (W : List (List Val)) (at' : Nat), W ++ Lk.drop q = W1 → at' ≤ O.length → O.drop at' = Lk.drop q ++ rest →
  Run T (Res [.tmp 2] (.bool true)) (.inLoop Xq24.b1 :: Xq24.k1 5) (oE n at' W.length [(10, .int .i64 k), (11, rowsA (flO Lk) (lstR Lk)), (12, .int .i64 q)]) (oS z a b O J W i j []) := by
 refine up_ind (fun W at' hW ha hd => ?_) fun q hq ih W at' hW ha hd => ?_
 ·rw [run_round, run_unfold Xq24.b1.eq_1]
  rw [List.drop_length, List.nil_append] at hd
  rw [List.drop_length, List.append_nil] at hW
  subst hW
  have nx := next at' ha hd
  have w1 := wrap_succ (show k < 9223372036854775807 by omega)
  simp only [oE, oS, List.cons_append, List.nil_append] at nx
  simp (maxSteps := 2000000) only [go_sem, oE, oS, List.cons_append, List.nil_append, run_unfold Xq24.c0.eq_1, run_unfold Xq24.c1.eq_1, run_unfold Xq24.c2.eq_1, run_unfold Xq24.c3.eq_1, Xq24.k0, Xq24.k1, Xq24.k1, Int.lt_irrefl, w1]
  exact ⟨v_names_map (fun _ => sv_pure) _, nx⟩
 ·rw [List.drop_eq_getElem_cons hq] at hW hd
  obtain ⟨g1, g2, g3⟩ := drop_get (show O.drop at' = Lk[q] :: (Lk.drop (q + 1) ++ rest) from hd)
  have ih' := ih (W ++ [Lk[q]]) (at' + 1) (by rw [List.append_assoc]; exact hW) g1 g3
  have hWl : W.length + 1 ≤ 5000 := by
   have := congrArg List.length hW
   simp only [List.length_append, List.length_cons] at this; omega
  obtain ⟨f1, f2⟩ := hfit _ (List.getElem_mem hq)
  have hsame : ∀ {Q : Post3} {kk : List Item} {os : List AOper} {d : Option Nat} {e : Env} {σ : Sto}, CallK T Q kk os d e σ true i_Xq63 [rowA .lst Lk[q], rowA .lst Lk[q]] ↔ Run T Q (.ops os :: kk) (put e d (.bool true)) σ := by
   intro Q kk os d e σ
   have := Xq63_call (f := .lst) (g := .lst) (a := Lk[q]) (b := Lk[q]) f1 f1 f2 f2 (Q := Q) (k := kk) (os := os) (d := d) (e := e) (σ := σ)
   rwa [decide_eq_true rfl] at this
  have hge : ¬ ((O.length : Nat) : Int) ≤ (at' : Int) := by omega
  have e1 := lst_get g1
  rw [g2] at e1
  have e2 := lst_get hq
  have w1 := wrap_succ (show at' < 9223372036854775807 by omega)
  have w2 := wrap_succ (show q < 9223372036854775807 by omega)
  rw [run_round, run_unfold Xq24.b1.eq_1]
  simp (maxSteps := 2000000) only [go_sem, oE, oS, List.cons_append, List.nil_append, hq, hge, g1, e1, e2, hsame]
  rw [appendV_push (nl := false) (cs := W.map fun r => rowA .lst r) (v := rowA .lst Lk[q]) rfl rfl (by simp) sv_one' (by simp only [maxBytes]; omega)]
  simp only [oE, oS, List.cons_append, List.nil_append, List.length_append, List.length_cons, List.length_nil, Nat.zero_add] at ih'
  have hm : W.map (fun r => rowA .lst r) ++ [rowA .lst Lk[q]] = (W ++ [Lk[q]]).map fun r => rowA .lst r := by simp
  rw [hm]
  simp (maxSteps := 2000000) only [go_sem, w1, w2]
  exact ⟨v_names_map (fun _ => sv_pure) _, ih'⟩

theorem outer_rows {z : Cas} {a b : Rows} {i j : Int} {n : Nat} (h : Two a b z.m z.n i j) (hn : n ≤ 3) : ∀ k, k ≤ a.length → ∀ (W : List (List Val)) (at' : Nat), W ++ joinL (a.drop k) b i j (-1) = joinL a b i j (-1) → at' ≤ (joinL a b i j n).length → (joinL a b i j n).drop at' = joinL (a.drop k) b i j n →
  Run T (Res [.tmp 2] (.bool true)) (.inLoop Xq24.b0 :: Xq24.k0) (oE n at' W.length [(10, .int .i64 k)]) (oS z a b (joinL a b i j n) (joinL a b i j (-1)) W i j []) := by
 have la := h.ha.n
 have lJ := h.len
 have lO := h.lenN (w := n)
 refine up_ind (fun W at' hW ha hd => ?_) fun k hk ih W at' hW ha hd => ?_
 ·have e1 : at' = (joinL a b i j n).length := by
   have := congrArg List.length hd
   simp only [List.length_drop, List.drop_length, joinL, List.flatMap_nil, List.length_nil] at this ha ⊢; omega
  have e2 : W = joinL a b i j (-1) := by
   rw [← hW, List.drop_length, joinL, List.flatMap_nil, List.append_nil]
  subst e1 e2
  rw [run_round, run_unfold Xq24.b0.eq_1]
  simp (maxSteps := 2000000) only [go_sem, oE, oS, List.cons_append, List.nil_append, run_unfold Xq24.c0.eq_1, run_unfold Xq24.c1.eq_1, run_unfold Xq24.c2.eq_1, run_unfold Xq24.c3.eq_1, Xq24.k0, Xq24.k1, Int.lt_irrefl]
  have hf := h.fitJ
  refine (callK_live T_Xq32 (as := [rowsA .lst (lstR (joinL a b i j (-1))), rowsA (flO (joinL a b i j (-1))) (lstR (joinL a b i j (-1)))]) (fun {lv σ R} => Xq32_spec hf hf) ?_ (by simp (maxSteps := 2000000) only [go_sem]) rfl).2 ?_
  ·simp (maxSteps := 2000000) only [go_sem]
   rw [snap_rows (n := 62) (o := 4) (X := joinL a b i j (-1)) rfl]
   done
  rw [decide_eq_true rfl]
  simp (maxSteps := 2000000) only [go_sem]
  done
 ·have hone := h.sub (one_sub hk) (List.Sublist.refl b)
  have hx := h.ha.w _ (List.getElem_mem hk)
  have hm3 := h.hm
  have hn3 := h.hn
  have w1 := wrap_succ (show k < 9223372036854775807 by omega)
  have w2 := wrap_succ (show at' < 9223372036854775807 by omega)
  have cn := fun {Q : Post3} {kk : List Item} {os : List AOper} {d : Option Nat} {e : Env} {σ : Sto} => nested_one (g := .lst) hone (Q := Q) (k := kk) (os := os) (d := d) (e := e) (σ := σ)
  have so : ∀ {σ : Sto}, sliceV 1 (rowsA .lst a) (some (.int .i64 (k : Int))) (some (.int .i64 ((k + 1 : Nat) : Int))) none σ = some (.list 1 [rowA a[k].1 a[k].2], σ) := by
   intro σ
   exact (slice_sv_one (σ := σ) (g := fun p : SlF × List Val => rowA p.1 p.2) (l := a) (kd := .i64) (kd' := .i64) (k := 1) hk).trans (by rw [sv_lst]; rfl)
  rw [List.drop_eq_getElem_cons hk] at hW hd
  have s1 : ∀ w : Int, joinL (a[k] :: a.drop (k + 1)) b i j w = jrow (fun x => b.filter (partP x i j)) w a[k].2 ++ joinL (a.drop (k + 1)) b i j w := fun w => rfl
  rw [s1] at hW hd
  have s2 : joinL [a[k]] b i j (-1) = jrow (fun x => b.filter (partP x i j)) (-1) a[k].2 := by simp [joinL]
  have hfit := hone.fitJ
  rw [s2] at cn hfit
  by_cases hp : b.filter (partP a[k].2 i j) = []
  ·have j1 : jrow (fun x => b.filter (partP x i j)) (-1) a[k].2 = [] := by rw [jrow_neg, hp]; rfl
   have j2 : jrow (fun x => b.filter (partP x i j)) (n : Int) a[k].2 = [a[k].2 ++ List.replicate n zV] := by
    unfold jrow
    rw [if_pos ⟨hp, by omega⟩, Int.toNat_natCast]
   rw [j1] at cn hW
   rw [j2] at hd
   obtain ⟨g1, g2, g3⟩ := drop_get (show (joinL a b i j n).drop at' = (a[k].2 ++ List.replicate n zV) :: joinL (a.drop (k + 1)) b i j n from hd)
   have ih' := ih W (at' + 1) hW g1 g3
   have hge : ¬ (((joinL a b i j n).length : Nat) : Int) ≤ (at' : Int) := by omega
   have e1 := lst_get g1
   rw [g2] at e1
   rw [run_round, run_unfold Xq24.b0.eq_1]
   simp (maxSteps := 2000000) only [go_sem, oE, oS, List.cons_append, List.nil_append, hk, so, w1, cn, hge, g1, e1]
   rw [app_row rfl (by omega)]
   simp (maxSteps := 2000000) only [go_sem]
   rw [apz_row rfl (by omega)]
   simp (maxSteps := 2000000) only [go_sem]
   obtain ⟨v1, v2⟩ := (h.ha.fit h.hm).2 _ (List.getElem_mem hk)
   have v3 : Fits (a[k].2 ++ List.replicate n zV) := by show List.length _ < _; rw [List.length_append, List.length_replicate]; omega
   have v4 : ∀ v ∈ a[k].2 ++ List.replicate n zV, Short v := by
    intro v hv
    rcases List.mem_append.1 hv with hv | hv
    ·exact v2 v hv
    ·rw [(List.mem_replicate.1 hv).2]; exact tab_short 0
   refine (callK_live T_Xq63 (as := [rowA .lst (a[k].2 ++ List.replicate n zV), rowA .lst (a[k].2 ++ List.replicate n zV)]) (fun {lv σ R} => Xq63_spec v3 v3 v4 v4) ?_ (by simp (maxSteps := 2000000) only [go_sem]) rfl).2 ?_
   ·simp (maxSteps := 2000000) only [go_sem]
    rw [snap_row (n := 62) (o := 5) (r := a[k].2 ++ List.replicate n zV) rfl]
   rw [decide_eq_true rfl]
   simp (maxSteps := 2000000) only [go_sem, run_unfold Xq24.c0.eq_1, run_unfold Xq24.c1.eq_1, run_unfold Xq24.c2.eq_1, run_unfold Xq24.c3.eq_1, Xq24.k0, Xq24.k1, w2]
   rw [run_round, run_unfold Xq24.b1.eq_1]
   simp only [oE, oS, List.cons_append, List.nil_append] at ih'
   simp (maxSteps := 2000000) only [go_sem, run_unfold Xq24.c0.eq_1, run_unfold Xq24.c1.eq_1, run_unfold Xq24.c2.eq_1, run_unfold Xq24.c3.eq_1, Xq24.k0, Xq24.k1, Xq24.k1, w1, Int.lt_irrefl]
   exact ⟨v_names_map (fun _ => sv_pure) _, ih'⟩
  ·have j1 : (jrow (fun x => b.filter (partP x i j)) (-1) a[k].2).length ≠ 0 := by
    rw [jrow_neg, List.length_map]
    intro e
    exact hp (List.eq_nil_of_length_eq_zero e)
   have j2 : jrow (fun x => b.filter (partP x i j)) (n : Int) a[k].2 = jrow (fun x => b.filter (partP x i j)) (-1) a[k].2 := by
    rw [jrow_neg]
    unfold jrow
    rw [if_neg (fun e => hp e.1)]
   rw [j2] at hd
   generalize jrow (fun x => b.filter (partP x i j)) (-1) a[k].2 = Lk at *
   have j3 : ¬ ((Lk.length : Nat) : Int) = 0 := by omega
   rw [run_round, run_unfold Xq24.b0.eq_1]
   simp (maxSteps := 2000000) only [go_sem, oE, oS, List.cons_append, List.nil_append, hk, so, w1, cn, j3]
   have ih' := fun at2 g1 g3 => ih (W ++ Lk) at2 (by rw [List.append_assoc]; exact hW) g1 g3
   have hWl : (W ++ Lk).length ≤ 5000 := by
    have := congrArg List.length hW
    simp only [List.length_append] at this ⊢; omega
   have hLl : Lk.length ≤ 1000 := by simp only [List.length_append] at hWl; have := congrArg List.length hW; simp only [List.length_append] at this; omega
   have hs := outer_same (z := z) (a := a) (b := b) (J := joinL a b i j (-1)) (n := n) (k := k) hLl (show (joinL a b i j n).length ≤ 5000 by omega) (by omega) hWl (fun r hr => hfit.2 (.lst, r) (List.mem_map_of_mem hr)) ih' 0 (by omega) W at' rfl ha (by simpa using hd)
   simp only [oE, oS, List.cons_append, List.nil_append] at hs
   simp (maxSteps := 2000000) only [go_sem, run_unfold Xq24.c0.eq_1, run_unfold Xq24.c1.eq_1, run_unfold Xq24.c2.eq_1, run_unfold Xq24.c3.eq_1, Xq24.k0, Xq24.k1]
   exact hs
theorem Xq24_spec {z : Cas} (h : z.Ok) {lv : List Nat} {σ : Sto} {R : Post} : Cw T true i_Xq24 [z.v] lv σ R ↔ R (.bool true) σ := by
 refine cw_intro T_Xq24 (by simp only [go_sem]) (by simp) ?_; rw [run_unfold Xq24.main.eq_1]
 have h2 := z.two
 have hmade := fun {Q : Post3} {k : List Item} {os : List AOper} {d : Option Nat} {e : Env} {σ : Sto} => Xq61_call (z := z) h (Q := Q) (k := k) (os := os) (d := d) (e := e) (σ := σ)
 generalize z.A = a at h2 hmade
 generalize z.B = b at h2 hmade
 generalize z.i = i at h2 hmade
 generalize z.j = j at h2 hmade
 have hw := wid (w := z.wb)
 have hl := outer_rows (z := z) h2 h2.hn 0 (by omega) [] 0 rfl (by omega) rfl
 simp only [oE, oS, List.cons_append, List.nil_append, List.length_nil] at hl
 have co := fun {Q k os d e σ} => @Xq49_call .lst .lst a b i j ((z.n : Nat) : Int) h2.ok (by omega) (by have := h2.hn; omega) h2.lenN Q k os d e σ
 simp (maxSteps := 2000000) only [go_sem, hmade, hw, co, Xq47_call h2.ok h2.len4]
 exact hl
@[go_sem] theorem Xq24_call {z : Cas} (h : z.Ok) {Q : Post3} {k : List Item} {os : List AOper} {d : Option Nat} {e : Env} {σ : Sto} : CallK T Q k os d e σ true i_Xq24 [z.v] ↔ Run T Q (.ops os :: k) (put e d (.bool true)) σ := Xq24_spec h

end Go.Abs
/- Walks of chapter 40: query.Sort; joins with the lists exchanged. -/
set_option linter.unusedSimpArgs false
set_option linter.unusedVariables false
set_option maxRecDepth 100000
set_option maxHeartbeats 4000000
namespace Go.Abs
open Go
attribute [local go_sem_proc] Nat.reduceLT Nat.reduceEqDiff Nat.reduceLeDiff Nat.reduceAdd Nat.reduceSub Nat.reduceMul Int.reduceLT Int.reduceLE Int.reduceEq Int.reduceNeg
attribute [local go_sem_proc ↓] reduceIte

def sortR (L : List (List Val)) : List (List Val) := L.mergeSort fun a b => decide (cmpR a b ≤ 0)
theorem sortR_perm (L : List (List Val)) : (sortR L).Perm L := List.mergeSort_perm ..
theorem sortR_srt (L : List (List Val)) : SrtR (sortR L) := by
 have h := List.pairwise_mergeSort (le := fun a b : List Val => decide (cmpR a b ≤ 0)) (fun a b c h1 h2 => decide_eq_true (cmpR_trans (of_decide_eq_true h1) (of_decide_eq_true h2))) (fun a b => by
  have := cmpR_anti a b
  simp only [Bool.or_eq_true, decide_eq_true_eq]; omega) L
 exact h.imp fun h => of_decide_eq_true h
theorem sortR_eq {L Z : List (List Val)} (h1 : SrtR Z) (h2 : Z.Perm L) : Z = sortR L := srtR_unique h1 (sortR_srt L) (h2.trans (sortR_perm L).symm)
theorem sortR_congr {L M : List (List Val)} (h : L.Perm M) : sortR L = sortR M := sortR_eq (sortR_srt L) ((sortR_perm L).trans h)

theorem clone_rows {L : List (List Val)} {R : Post} (hl : L.length ≤ 100000) : Cw T false i_Xq13 [rowsA .lst (lstR L)] [] [] R ↔ R (dat L.length) (zS L) := by
 have e0 : rowsA .lst (lstR L) = sv 1 .lst (L.map fun r => rowA .lst r) := by rw [rowsA, lstR, List.map_map]; rfl
 rw [e0]
 rw [cw_enter T_Xq13 (by simp), run_unfold Xq13.main.eq_1]
 simp (maxSteps := 2000000) only [go_sem, show ∀ σ, eqnilV false .sl (sv 1 .lst (L.map fun r => rowA .lst r)) σ = some (.bool false, σ) from fun σ => by rw [sv_lst]; rfl]
 have ha := appendV_ones (σ := [.cells false []]) (o := 0) (bytes := 24) (f := .lst) (g := fun r : List Val => rowA .lst r) (X := []) (Y := L) (fun _ => sv_one') rfl (by simp only [List.length_nil, maxBytes]; omega)
 simp only [List.length_nil, List.nil_append] at ha
 rw [ha]
 simp (maxSteps := 2000000) only [go_sem]
theorem Xq43_says : fSays T 100 i_Xq43 [.nils, .nils] (fun v => match v with | .nils => true | _ => false) = true := by kernel_rfl
theorem Xq43_nil {lv : List Nat} {σ : Sto} {R : Post} : Cw T true i_Xq43 [.nils, .nils] lv σ R ↔ R .nils σ := by
 refine cw_says T_Xq43 (by simp (maxSteps := 2000000) only [go_sem]) (fun u h => ?_) Xq43_says
 split at h
 ·rfl
 ·cases h
theorem Xq43_lst {L : List (List Val)} (hl : L.length ≤ 100000) (hr : ∀ r ∈ L, r.length ≤ 1000000) {lv : List Nat} {σ : Sto} {R : Post} : Cw T true i_Xq43 [rowsA .lst (lstR L), .nils] lv σ R ↔ R (rowsA .lst (lstR (sortR L))) σ := by
 refine cw_intro T_Xq43 (by simp only [go_sem]) (by simp) ?_; rw [run_unfold Xq43.main.eq_1]
 have hc := fun {Q k os d e} => callK_shared (T := T) (Q := Q) (k := k) (os := os) (d := d) (e := e) (σ := []) (fun {R : Post} => clone_rows (R := R) hl)
 simp (maxSteps := 2000000) only [go_sem, hc]
 refine sortStable_call hl rfl hr fun Z z1 z2 => ?_
 rw [← z2.length_eq]
 rw [← sortR_eq z1 z2]
 simp (maxSteps := 2000000) only [go_sem]
 rw [snap_rows (n := 62) (o := 0) (X := Z) rfl]
theorem Xq43_spec {L : List (List Val)} (hl : L.length ≤ 100000) (hr : ∀ r ∈ L, r.length ≤ 1000000) {lv : List Nat} {σ : Sto} {R : Post} : Cw T true i_Xq43 [rowsA (flO L) (lstR L), .nils] lv σ R ↔ R (rowsA (flO L) (lstR (sortR L))) σ := by
 by_cases h : L = []
 ·subst h
  have e : sortR [] = [] := List.eq_nil_of_length_eq_zero (by rw [(sortR_perm []).length_eq]; rfl)
  rw [e]
  exact Xq43_nil
 ·rw [show flO L = .lst from if_neg h]
  exact Xq43_lst hl hr
@[go_sem] theorem Xq43_call {L : List (List Val)} (hl : L.length ≤ 100000) (hr : ∀ r ∈ L, r.length ≤ 1000000) {Q : Post3} {k : List Item} {os : List AOper} {d : Option Nat} {e : Env} {σ : Sto} : CallK T Q k os d e σ true i_Xq43 [rowsA (flO L) (lstR L), .nils] ↔ Run T Q (.ops os :: k) (put e d (rowsA (flO L) (lstR (sortR L)))) σ := Xq43_spec hl hr

theorem Xq43L_call {L : List (List Val)} (hl : L.length ≤ 100000) (hr : ∀ r ∈ L, r.length ≤ 1000000) {Q : Post3} {k : List Item} {os : List AOper} {d : Option Nat} {e : Env} {σ : Sto} : CallK T Q k os d e σ true i_Xq43 [rowsA .lst (lstR L), .nils] ↔ Run T Q (.ops os :: k) (put e d (rowsA .lst (lstR (sortR L)))) σ := Xq43_lst hl hr

theorem flatMap_cg {α β : Type} {g h : α → List β} : ∀ {l : List α}, (∀ x ∈ l, g x = h x) → l.flatMap g = l.flatMap h
 | [], _ => rfl
 | x :: l, H => by rw [List.flatMap_cons, List.flatMap_cons, H x List.mem_cons_self, flatMap_cg fun y hy => H y (List.mem_cons_of_mem _ hy)]
theorem flatMap_add {β γ : Type} (g h : β → List γ) : ∀ b : List β, (b.flatMap fun q => g q ++ h q).Perm (b.flatMap g ++ b.flatMap h)
 | [] => List.Perm.refl _
 | q :: b => by
  simp only [List.flatMap_cons]
  have ih := flatMap_add g h b
  refine (ih.append_left (g q ++ h q)).trans ?_
  simp only [List.append_assoc]
  refine List.Perm.append_left (g q) ?_
  rw [← List.append_assoc, ← List.append_assoc]
  exact List.perm_append_comm.append_right _
theorem exch {α β γ : Type} (r : α → β → Bool) (f : α → β → γ) : ∀ (a : List α) (b : List β), (a.flatMap fun p => (b.filter (r p)).map (f p)).Perm (b.flatMap fun q => (a.filter fun p => r p q).map fun p => f p q)
 | [], b => by
  have : (b.flatMap fun q => (([] : List α).filter fun p => r p q).map fun p => f p q) = [] := by
   induction b with
   | nil => rfl
   | cons q b ih => rw [List.flatMap_cons, ih]; rfl
  rw [this]
  exact List.Perm.refl _
 | p :: a, b => by
  rw [List.flatMap_cons]
  have ih := exch r f a b
  have e1 : ∀ b : List β, (b.flatMap fun q => if r p q = true then [f p q] else []) = (b.filter (r p)).map (f p) := by
   intro b
   induction b with
   | nil => rfl
   | cons q b ih =>
    rw [List.flatMap_cons, ih]
    cases h : r p q
    ·rw [List.filter_cons_of_neg (by rw [h]; decide)]; rfl
    ·rw [List.filter_cons_of_pos h]; rfl
  have e2 : (fun q => ((p :: a).filter fun p => r p q).map fun p => f p q) = fun q => (if r p q = true then [f p q] else []) ++ (a.filter fun p => r p q).map fun p => f p q := by
   funext q
   rw [List.filter_cons]
   cases h : r p q <;> rfl
  rw [e2]
  refine List.Perm.trans ?_ (flatMap_add _ _ b).symm
  rw [e1]
  exact ih.append_left _
theorem partP_sym {p q : SlF × List Val} {i j : Int} : partP q.2 j i p = partP p.2 i j q := by
 unfold partP
 by_cases h : colN p.2 i = colN q.2 j
 ·rw [h]
 ·have h' : ¬ colN q.2 j = colN p.2 i := fun e => h e.symm
  rw [decide_eq_false h, decide_eq_false h', Bool.and_false, Bool.and_false]
abbrev turn (w : Nat) (r : List Val) : List Val := r.drop w ++ r.take w
theorem turned_perm {a b : Rows} {i j : Int} {w : Nat} (hw : ∀ q ∈ b, q.2.length = w) : ((joinL b a j i (-1)).map (turn w)).Perm (joinL a b i j (-1)) := by
 have e1 : (joinL b a j i (-1)).map (turn w) = b.flatMap fun q => (a.filter fun p => partP p.2 i j q).map fun p => p.2 ++ q.2 := by
  rw [joinL, List.map_flatMap]
  refine flatMap_cg fun q hq => ?_
  rw [jrow_neg, List.map_map]
  have e : (fun p => partP q.2 j i p) = fun p => partP p.2 i j q := funext fun p => partP_sym
  rw [show a.filter (partP q.2 j i) = a.filter fun p => partP p.2 i j q from congrArg (fun f => a.filter f) e]
  refine List.map_congr_left fun p _ => ?_
  show turn w (q.2 ++ p.2) = p.2 ++ q.2
  rw [turn, ← hw q hq, List.drop_left, List.take_left]
 have e2 : joinL a b i j (-1) = a.flatMap fun p => (b.filter (partP p.2 i j)).map fun q => p.2 ++ q.2 := by
  rw [joinL]
  refine flatMap_cg fun p _ => jrow_neg
 rw [e1, e2]
 exact (exch (fun (p : SlF × List Val) q => partP p.2 i j q) (fun p q => p.2 ++ q.2) a b).symm
end Go.Abs
/- Walks of chapter 40: JoinExchanges. -/
set_option linter.unusedSimpArgs false
set_option linter.unusedVariables false
set_option maxRecDepth 100000
set_option maxHeartbeats 8000000
namespace Go.Abs
open Go
attribute [local go_sem_proc] Nat.reduceLT Nat.reduceEqDiff Nat.reduceLeDiff Nat.reduceAdd Nat.reduceSub Nat.reduceMul Int.reduceLT Int.reduceLE Int.reduceEq Int.reduceNeg
attribute [local go_sem_proc ↓] reduceIte

abbrev xS (z : Cas) (a b : Rows) (i j : Int) (J K : List (List Val)) (ν : Sto) : Sto := .cells false [bytesA z.fa z.a, bytesA z.fb z.b, .int .u8 (z.wa : Int), .int .u8 (z.wb : Int), .int .u8 (z.o0 : Int), .int .u8 (z.o1 : Int)] ::
 .cells false [rowsA .lst a, rowsA .lst b, .int .i64 i, .int .i64 j] :: .cells false [rowsA (flO J) (lstR J), .int .i64 0] :: .cells false [rowsA (flO K) (lstR K), .int .i64 0] :: ν
abbrev xE (w : Nat) (l : List (Nat × AVal)) : Env := mkE 155 ([(1, .ptr 0 6 0), (3, .bool true), (4, .ptr 1 4 0), (5, .ptr 2 2 0), (6, .ptr 3 2 0)] ++ l)

theorem appF_row' {o : Nat} {f : SlF} {x y : List Val} {σ : Sto} (hσ : σ[o]? = some (rowO x)) (hb : x.length + y.length ≤ 4000000) : appendFV 3 32 (refV o x) (rowA f y) σ = some (rowA .lst (x ++ y), σ.set o .dead) := by
 have hr : rowOf σ (rowA f y) = some (y.length, cellsV y) := rowOf_structs
 have hl := cellsV_len x
 have hl2 := cellsV_len y
 have h1 : (cellsV y).all AVal.one = true := all_one_flat (fun _ => rfl) y
 have hp : AVal.pures (cellsV x ++ cellsV y) = true := by rw [← List.flatMap_append]; exact cellsV_pure
 simp only [appendFV, hr, hσ]
 rw [if_pos ⟨hl2, by decide, h1, hl, trivial, trivial, trivial, by simp only [maxBytes]; omega, hp⟩]
 have hc := rowA_chunk (r := x ++ y)
 rw [List.length_append] at hc
 have ee : cellsV x ++ cellsV y = cellsV (x ++ y) := (List.flatMap_append ..).symm
 rw [ee, hc]

theorem ex_rows {z : Cas} {a b : Rows} {i j : Int} {J K W1 : List (List Val)} {w N : Nat} (hw : ∀ r ∈ K, w ≤ r.length) (hl : ∀ r ∈ K, r.length ≤ 1000) (hn : W1.length ≤ 5000) (hK : K.length ≤ 5000)
  (next : Run T (Res [.tmp 2] (.bool true)) [.code Xq15.c0] (mkE 155 [(3, .bool true), (5, .ptr 2 2 0), (6, .ptr 3 2 0), (7, .int .i64 N), (11, .ref 4 W1.length 0 W1.length 1)]) (xS z a b i j J K [rowsSt W1])) :
  ∀ q, q ≤ K.length → ∀ W, W ++ (K.drop q).map (turn w) = W1 →
  Run T (Res [.tmp 2] (.bool true)) (.inLoop Xq15.b2 :: Xq15.k2) (mkE 155 [(3, .bool true), (5, .ptr 2 2 0), (6, .ptr 3 2 0), (7, .int .i64 N), (8, .int .i64 w), (11, .ref 4 W.length 0 W.length 1), (12, .int .i64 q)]) (xS z a b i j J K [rowsSt W]) := by
 refine up_ind (fun W hW => ?_) fun q hq ih W hW => ?_
 ·rw [List.drop_length, List.map_nil, List.append_nil] at hW
  subst hW
  rw [run_round, run_unfold Xq15.b2.eq_1]
  simp (maxSteps := 2000000) only [go_sem, Int.lt_irrefl, Xq15.k2]
  exact next
 ·rw [List.drop_eq_getElem_cons hq, List.map_cons] at hW
  have hm := List.getElem_mem hq
  have h1 := hw _ hm
  have h2 := hl _ hm
  have hlt : ¬ K[q].length < w := by omega
  have hWl : W.length + 1 ≤ 5000 := by
   have := congrArg List.length hW
   simp only [List.length_append, List.length_cons] at this; omega
  have ih' := ih (W ++ [turn w K[q]]) (by rw [← hW]; simp)
  have w1 := wrap_succ (show q < 9223372036854775807 by omega)
  have e2 := lst_get hq
  have sd := fun {σ : Sto} => slice_sv_drop (k := 3) (g := fun v : Val => .agg [.int .i64 v.k, .int .i64 v.i, .str v.s]) (l := K[q]) (kd := .i64) (n := w) (σ := σ) h1
  have st := fun {σ : Sto} => slice_sv_take (k := 3) (g := fun v : Val => .agg [.int .i64 v.k, .int .i64 v.i, .str v.s]) (l := K[q]) (kd := .i64) (n := w) (σ := σ) h1
  have l1 : (K[q].drop w).length ≤ 1000 := by rw [List.length_drop]; omega
  have l2 : (K[q].take w).length ≤ 1000 := by rw [List.length_take]; omega
  rw [run_round, run_unfold Xq15.b2.eq_1]
  simp (maxSteps := 2000000) only [go_sem, hq, hlt, w1, e2, sd]
  rw [app_row rfl (by omega)]
  simp (maxSteps := 2000000) only [go_sem, hq, e2, st]
  rw [appF_row' rfl (by omega)]
  simp (maxSteps := 2000000) only [go_sem]
  rw [appendV_push (nl := false) (cs := W.map fun r => rowA .lst r) (v := rowA .lst (K[q].drop w ++ K[q].take w)) rfl rfl (by simp) sv_one' (by simp only [maxBytes]; omega)]
  have hm : W.map (fun r => rowA .lst r) ++ [rowA .lst (K[q].drop w ++ K[q].take w)] = (W ++ [turn w K[q]]).map fun r => rowA .lst r := by simp
  rw [hm]
  simp only [xS, List.length_append, List.length_cons, List.length_nil, Nat.zero_add] at ih'
  simp (maxSteps := 2000000) only [go_sem, w1]
  exact ⟨v_names_map (fun _ => sv_pure) _, ih'⟩

abbrev nE (w : Nat) (l : List (Nat × AVal)) : Env := mkE 155 ([(3, .bool true), (4, .ptr 1 4 0), (5, .ptr 2 2 0), (6, .ptr 3 2 0)] ++ l)
theorem ex_in {z : Cas} {a b : Rows} {i j : Int} {J K : List (List Val)} {w p c1 : Nat} (h : JoinOk a b i j) (hp : p < a.length) (hc1 : c1 ≤ 1000000)
  (next : Run T (Res [.tmp 2] (.bool true)) (.inLoop Xq15.b0 :: Xq15.k0) (nE w [(7, .int .i64 c1), (8, .int .i64 w), (9, .int .i64 ((p + 1 : Nat) : Int))]) (xS z a b i j J K [])) :
  ∀ k, k ≤ b.length → ∀ c, c + ((b.drop k).filter (partP a[p].2 i j)).length = c1 →
  Run T (Res [.tmp 2] (.bool true)) (.inLoop Xq15.b1 :: Xq15.k1) (nE w [(7, .int .i64 c), (8, .int .i64 w), (9, .int .i64 p), (10, .int .i64 k)]) (xS z a b i j J K []) := by
 have ha1 := h.fa.1
 have hb1 := h.fb.1
 have hi := h.ca _ (List.getElem_mem hp)
 have w0 := wrap_succ (show p < 9223372036854775807 by omega)
 have a1 := fun {σ : Sto} => @iaddrV_int' 3 a[p].1 Val (fun v => .agg [.int .i64 v.k, .int .i64 v.i, .str v.s]) a[p].2 .i64 i σ hi
 simp only [colN_get hi] at a1
 refine up_ind (fun c e => ?_) fun k hk ih c e => ?_
 ·rw [List.drop_length, List.filter_nil, List.length_nil, Nat.add_zero] at e
  subst e
  simp only [nE, xS, List.cons_append, List.nil_append] at next
  rw [run_round, run_unfold Xq15.b1.eq_1]
  simp (maxSteps := 2000000) only [go_sem, nE, xS, List.cons_append, List.nil_append, run_unfold Xq15.c0.eq_1, run_unfold Xq15.c1.eq_1, run_unfold Xq15.c2.eq_1, run_unfold Xq15.c3.eq_1, Xq15.k0, Xq15.k1, Xq15.k2, Int.lt_irrefl, w0]
  exact next
 ·rw [List.drop_eq_getElem_cons hk] at e
  have hj := h.cb _ (List.getElem_mem hk)
  have a2 := fun {σ : Sto} => @iaddrV_int' 3 b[k].1 Val (fun v => .agg [.int .i64 v.k, .int .i64 v.i, .str v.s]) b[k].2 .i64 j σ hj
  simp only [colN_get hj] at a2
  have w1 := wrap_succ (show k < 9223372036854775807 by omega)
  cases hpp : partP a[p].2 i j b[k]
  ·rw [List.filter_cons_of_neg (by rw [hpp]; decide)] at e
   have ih' := ih c e
   simp only [nE, xS, List.cons_append, List.nil_append] at ih'
   rw [run_round, run_unfold Xq15.b1.eq_1]
   by_cases h1 : (colN a[p].2 i).k = 0
   ·simp (maxSteps := 2000000) only [go_sem, nE, xS, List.cons_append, List.nil_append, hp, hk, a1, a2, h1, w1, decide_true, Bool.not_true, run_unfold Xq15.c0.eq_1, run_unfold Xq15.c1.eq_1, run_unfold Xq15.c2.eq_1, run_unfold Xq15.c3.eq_1, Xq15.k0, Xq15.k1, Xq15.k2]
    exact ih'
   ·have h2 : ¬ colN a[p].2 i = colN b[k].2 j := by
     intro e
     unfold partP at hpp
     rw [decide_eq_false h1, decide_eq_true e] at hpp
     cases hpp
    simp (maxSteps := 2000000) only [go_sem, nE, xS, List.cons_append, List.nil_append, hp, hk, a1, a2, h1, decide_false, Bool.not_false]
    rw [if_neg h2]
    simp (maxSteps := 2000000) only [go_sem, w1, run_unfold Xq15.c0.eq_1, run_unfold Xq15.c1.eq_1, run_unfold Xq15.c2.eq_1, run_unfold Xq15.c3.eq_1, Xq15.k0, Xq15.k1, Xq15.k2]
    exact ih'
  ·rw [List.filter_cons_of_pos hpp, List.length_cons] at e
   have ih' := ih (c + 1) (by omega)
   have w2 := wrap_succ (show c < 9223372036854775807 by omega)
   unfold partP at hpp
   rw [Bool.and_eq_true, Bool.not_eq_true', decide_eq_false_iff_not, decide_eq_true_eq] at hpp
   obtain ⟨h1, h2⟩ := hpp
   simp only [nE, xS, List.cons_append, List.nil_append] at ih'
   rw [run_round, run_unfold Xq15.b1.eq_1]
   simp (maxSteps := 2000000) only [go_sem, nE, xS, List.cons_append, List.nil_append, hp, hk, a1, a2, h1, decide_false, Bool.not_false]
   rw [if_pos h2]
   simp (maxSteps := 2000000) only [go_sem, w1, w2, run_unfold Xq15.c0.eq_1, run_unfold Xq15.c1.eq_1, run_unfold Xq15.c2.eq_1, run_unfold Xq15.c3.eq_1, Xq15.k0, Xq15.k1, Xq15.k2]
   exact ih'

theorem ex_out {z : Cas} {a b : Rows} {i j : Int} {J K : List (List Val)} {w N : Nat} (h : JoinOk a b i j) (hN : N ≤ 1000000)
  (next : Run T (Res [.tmp 2] (.bool true)) [.code Xq15.c1] (mkE 155 [(3, .bool true), (5, .ptr 2 2 0), (6, .ptr 3 2 0), (7, .int .i64 N), (8, .int .i64 w)]) (xS z a b i j J K [])) :
  ∀ p, p ≤ a.length → ∀ c, c + (joinL (a.drop p) b i j (-1)).length = N →
  Run T (Res [.tmp 2] (.bool true)) (.inLoop Xq15.b0 :: Xq15.k0) (nE w [(7, .int .i64 c), (8, .int .i64 w), (9, .int .i64 p)]) (xS z a b i j J K []) := by
 refine up_ind (fun c e => ?_) fun p hp ih c e => ?_
 ·rw [List.drop_length, joinL, List.flatMap_nil, List.length_nil, Nat.add_zero] at e
  subst e
  simp only [xS] at next
  rw [run_round, run_unfold Xq15.b0.eq_1]
  simp (maxSteps := 2000000) only [go_sem, nE, xS, List.cons_append, List.nil_append, Int.lt_irrefl, Xq15.k0]
  exact next
 ·rw [List.drop_eq_getElem_cons hp, joinL, List.flatMap_cons, List.length_append, jrow_neg, List.length_map] at e
  have hin := ex_in (z := z) (J := J) (K := K) (w := w) (c1 := c + (b.filter (partP a[p].2 i j)).length) h hp (by omega) (ih _ (by rw [joinL]; omega)) 0 (by omega) c (by rw [List.drop_zero])
  simp only [nE, xS, List.cons_append, List.nil_append] at hin
  rw [run_round, run_unfold Xq15.b0.eq_1]
  simp (maxSteps := 2000000) only [go_sem, nE, xS, List.cons_append, List.nil_append, hp]
  exact hin
theorem freeze_rowsE {σ : Sto} {o : Nat} {l : Rows} (hσ : σ[o]? = some (.cells false (l.map fun p => rowA p.1 p.2))) : freezeV (.ref o l.length 0 l.length 1) σ = some (rowsA .lst l, σ.set o .dead) := by
 have hl : (l.map fun p => rowA p.1 p.2).length = l.length := List.length_map ..
 have hp : AVal.pures (l.map fun p => rowA p.1 p.2) = true := v_names_map (fun _ => sv_pure) l
 simp only [freezeV, hσ, hl, hp, Nat.zero_add, Nat.mul_one, Nat.le_refl, true_and, and_self, Bool.false_and, List.drop_zero, Bool.false_eq_true, if_false, Nat.zero_lt_one, if_true]
 have hc := chunk_one (l.map fun p => rowA p.1 p.2)
 rw [hl] at hc
 rw [List.take_of_length_le (by rw [hl]; exact Nat.le_refl _), hc, rowsA, sv_lst]
theorem freeze_lst {σ : Sto} {o : Nat} {W : List (List Val)} (hσ : σ[o]? = some (rowsSt W)) : freezeV (.ref o W.length 0 W.length 1) σ = some (rowsA .lst (lstR W), σ.set o .dead) := by
 have h := freeze_rowsE (σ := σ) (o := o) (l := lstR W) (by rw [hσ, rowsSt, lstR, List.map_map]; rfl)
 rwa [show (lstR W).length = W.length from List.length_map ..] at h
theorem ex_end {z : Cas} {a b : Rows} {i j : Int} {J K TT : List (List Val)} (hlen : J.length ≤ 400) (hrow2 : ∀ r ∈ J, r.length ≤ 6) (fJ : RowsFit (lstR J)) (hp : TT.Perm J) :
  Run T (Res [.tmp 2] (.bool true)) [.code Xq15.c0] (mkE 155 [(3, .bool true), (5, .ptr 2 2 0), (6, .ptr 3 2 0), (7, .int .i64 (J.length : Nat)), (11, .ref 4 TT.length 0 TT.length 1)]) (xS z a b i j J K [rowsSt TT]) := by
 have hle := hp.length_eq
 have s1 := fun {Q k os d e σ} => @Xq43_call J (by omega) (fun r hr => by have := hrow2 r hr; omega) Q k os d e σ
 have s2 := fun {Q k os d e σ} => @Xq43L_call TT (by omega) (fun r hr => by have := hrow2 r (hp.mem_iff.1 hr); omega) Q k os d e σ
 rw [sortR_congr hp] at s2
 have fS : RowsFit (lstR (sortR J)) := by
  refine ⟨by rw [List.length_map, (sortR_perm J).length_eq]; omega, fun q hq => ?_⟩
  obtain ⟨_, hr⟩ := lstR_mem hq
  exact fJ.2 (.lst, q.2) (List.mem_map_of_mem ((sortR_perm J).mem_iff.1 hr))
 have sm := fun {Q k os d e σ} => @Xq32_call (flO J) .lst (lstR (sortR J)) (lstR (sortR J)) fS fS Q k os d e σ
 rw [decide_eq_true rfl] at sm
 simp (maxSteps := 2000000) only [go_sem, run_unfold Xq15.c0.eq_1]
 rw [freeze_lst rfl]
 simp (maxSteps := 2000000) only [go_sem, s1, s2, sm]
theorem Xq15_spec {z : Cas} (h : z.Ok) {lv : List Nat} {σ : Sto} {R : Post} : Cw T true i_Xq15 [z.v] lv σ R ↔ R (.bool true) σ := by
 refine cw_intro T_Xq15 (by simp only [go_sem]) (by simp) ?_; rw [run_unfold Xq15.main.eq_1]
 have h2 := z.two
 have hmade := fun {Q : Post3} {k : List Item} {os : List AOper} {d : Option Nat} {e : Env} {σ : Sto} => Xq61_call (z := z) h (Q := Q) (k := k) (os := os) (d := d) (e := e) (σ := σ)
 generalize z.A = a at h2 hmade
 generalize z.B = b at h2 hmade
 generalize z.i = i at h2 hmade
 generalize z.j = j at h2 hmade
 have h3 : Two b a z.n z.m j i := ⟨h2.hb, h2.ha, h2.hn, h2.hm, h2.j0, h2.i0, h2.jn, h2.im⟩
 have hw := wid (w := z.wb)
 have hlen := h2.len
 have hlen3 := h3.len
 have hp := turned_perm (a := a) (b := b) (i := i) (j := j) (w := z.n) h2.hb.w
 have c1 := fun {Q k os d e σ} => @Xq47_call .lst .lst a b i j h2.ok h2.len4 Q k os d e σ
 have c2 := fun {Q k os d e σ} => @Xq47_call .lst .lst b a j i h3.ok h3.len4 Q k os d e σ
 have fJ := h2.fitJ
 have hrow : ∀ r ∈ joinL b a j i (-1), z.n ≤ r.length ∧ r.length ≤ 6 := by
  intro r hr
  obtain ⟨p, hp1, q, hq, e, _⟩ := join_mem hr
  have e1 := h2.hb.w p hp1
  have e2 := h2.ha.w q hq
  have := h2.hm
  have := h2.hn
  rw [e, List.length_append]; omega
 have hrow2 : ∀ r ∈ joinL a b i j (-1), r.length ≤ 6 := by
  intro r hr
  obtain ⟨p, hp1, q, hq, e, _⟩ := join_mem hr
  have e1 := h2.ha.w p hp1
  have e2 := h2.hb.w q hq
  have := h2.hm
  have := h2.hn
  rw [e, List.length_append]; omega
 obtain ⟨J, hJ⟩ : ∃ J, J = joinL a b i j (-1) := ⟨_, rfl⟩
 obtain ⟨K, hK⟩ : ∃ K, K = joinL b a j i (-1) := ⟨_, rfl⟩
 rw [← hJ] at c1 hlen hrow2 fJ hp
 rw [← hK] at c2 hlen3 hrow hp
 have hend := ex_end (z := z) (a := a) (b := b) (i := i) (j := j) (K := K) (by omega) hrow2 fJ hp
 have hrows := ex_rows (z := z) (a := a) (b := b) (i := i) (j := j) (J := J) (K := K) (W1 := K.map (turn z.n)) (w := z.n) (N := J.length) (fun r hr => (hrow r hr).1) (fun r hr => by have := (hrow r hr).2; omega) (by rw [List.length_map]; omega) (by omega) hend 0 (by omega) [] (by rw [List.drop_zero, List.nil_append])
 have hmid : Run T (Res [.tmp 2] (.bool true)) [.code Xq15.c1] (mkE 155 [(3, .bool true), (5, .ptr 2 2 0), (6, .ptr 3 2 0), (7, .int .i64 (J.length : Nat)), (8, .int .i64 (z.n : Nat))]) (xS z a b i j J K []) := by
  simp (maxSteps := 2000000) only [go_sem, run_unfold Xq15.c1.eq_1]
  exact hrows
 have hout := ex_out (z := z) (J := J) (K := K) (w := z.n) (N := J.length) h2.ok (by omega) hmid 0 (by omega) 0 (by rw [List.drop_zero, ← hJ]; omega)
 simp only [nE, xS, List.cons_append, List.nil_append] at hout
 simp (maxSteps := 2000000) only [go_sem, hmade, hw, c1, c2]
 exact hout
@[go_sem] theorem Xq15_call {z : Cas} (h : z.Ok) {Q : Post3} {k : List Item} {os : List AOper} {d : Option Nat} {e : Env} {σ : Sto} : CallK T Q k os d e σ true i_Xq15 [z.v] ↔ Run T Q (.ops os :: k) (put e d (.bool true)) σ := Xq15_spec h

end Go.Abs
