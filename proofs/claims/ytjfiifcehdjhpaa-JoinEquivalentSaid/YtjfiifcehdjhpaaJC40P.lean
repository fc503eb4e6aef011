/- Parts of the proof: C40P, C40Q, C40R, C40T, C40U, C40V. -/
import Derived.Test.YtjfiifcehdjhpaaC40M
import Derived.Test.YtjfiifcehdjhpaaAbsVal2
set_option linter.all false
/- Walks of chapter 40: rows in order. -/
set_option linter.unusedSimpArgs false
set_option linter.unusedVariables false
set_option maxRecDepth 100000
set_option maxHeartbeats 4000000
namespace Go.Abs
open Go
attribute [local go_sem_proc] Nat.reduceLT Nat.reduceEqDiff Nat.reduceLeDiff Nat.reduceAdd Nat.reduceSub Nat.reduceMul Int.reduceLT Int.reduceLE Int.reduceEq Int.reduceNeg
attribute [local go_sem_proc ↓] reduceIte

theorem sgn_anti (a b : Int) : sgn b a = - sgn a b := by unfold sgn; repeat' split
                                                         all_goals omega
theorem cmpL_anti : ∀ (x y : List UInt8), cmpL y x = - cmpL x y
  | [], [] => by simp [cmpL]
  | [], b :: y => by simp [cmpL]
  | a :: x, [] => by simp [cmpL]
  | a :: x, b :: y => by
    simp only [cmpL]
    by_cases h : a = b
    · subst h; simp [cmpL_anti x y]
    · have h' : ¬ b = a := fun e => h e.symm
      by_cases hl : a < b
      · have : ¬ b < a := fun h2 => UInt8.lt_irrefl a (UInt8.lt_trans hl h2)
        simp [h, h', hl, this]
      · have : b < a := by
          rcases UInt8.lt_or_lt_of_ne h with h2 | h2
          · exact absurd h2 hl
          · exact h2
        simp [h, h', hl, this]
theorem cmpV_anti (a b : Val) : cmpV b a = - cmpV a b := by
  unfold cmpV
  by_cases h1 : a.k = b.k
  · by_cases h2 : a.i = b.i
    · simp only [h1, h2, if_true]; exact cmpL_anti _ _
    · have h2' : ¬ b.i = a.i := fun e => h2 e.symm
      simp only [h1, h2, h2', if_true, if_false]; exact sgn_anti _ _
  · have h1' : ¬ b.k = a.k := fun e => h1 e.symm
    simp only [h1, h1', if_false]; exact sgn_anti _ _
theorem sgn_trans {a b c : Int} (h1 : sgn a b ≤ 0) (h2 : sgn b c ≤ 0) : sgn a c ≤ 0 ∧ (sgn a c = 0 → sgn a b = 0 ∧ sgn b c = 0) := by
  unfold sgn at *; repeat' split at h1
  all_goals repeat' split at h2
  all_goals repeat' split
  all_goals omega
theorem cmpL_trans : ∀ {x y z : List UInt8}, cmpL x y ≤ 0 → cmpL y z ≤ 0 → cmpL x z ≤ 0 ∧ (cmpL x z = 0 → cmpL x y = 0 ∧ cmpL y z = 0)
  | [], [], z, _, h2 => ⟨h2, fun h => ⟨rfl, h⟩⟩
  | [], b :: y, [], _, h2 => by simp [cmpL] at h2
  | [], b :: y, c :: z, _, _ => by simp [cmpL]
  | a :: x, [], z, h1, _ => by simp [cmpL] at h1
  | a :: x, b :: y, [], _, h2 => by simp [cmpL] at h2
  | a :: x, b :: y, c :: z, h1, h2 => by
    simp only [cmpL] at h1 h2 ⊢
    by_cases e1 : a = b
    · subst e1
      by_cases e2 : a = c
      · subst e2; simp only [if_true] at h1 h2 ⊢; exact cmpL_trans h1 h2
      · simp only [if_true, if_neg e2] at h1 h2 ⊢
        by_cases l : a < c
        · simp only [if_pos l]; omega
        · simp only [if_neg l] at h2; omega
    · simp only [if_neg e1] at h1 ⊢
      by_cases l : a < b
      · by_cases e2 : b = c
        · subst e2; simp only [if_neg e1, if_pos l]; omega
        · simp only [if_neg e2] at h2 ⊢
          by_cases l2 : b < c
          · have l3 := UInt8.lt_trans l l2
            have e3 : a ≠ c := fun e => by subst e; exact UInt8.lt_irrefl _ l3
            simp only [if_neg e3, if_pos l3]; omega
          · simp only [if_neg l2] at h2; omega
      · simp only [if_neg l] at h1; omega
theorem cmpV_trans {a b c : Val} (h1 : cmpV a b ≤ 0) (h2 : cmpV b c ≤ 0) : cmpV a c ≤ 0 ∧ (cmpV a c = 0 → cmpV a b = 0 ∧ cmpV b c = 0) := by
  unfold cmpV at *
  by_cases e1 : a.k = b.k
  · by_cases e2 : b.k = c.k
    · simp only [e1, e2, if_true] at h1 h2 ⊢
      by_cases e3 : a.i = b.i
      · by_cases e4 : b.i = c.i
        · simp only [e3, e4, if_true] at h1 h2 ⊢; exact cmpL_trans h1 h2
        · simp only [e3, e4, if_true, if_false] at h1 h2 ⊢
          exact ⟨h2, fun h => absurd (sgn_zero.1 h) e4⟩
      · by_cases e4 : b.i = c.i
        · have e5 : ¬ a.i = c.i := fun e => e3 (by omega)
          simp only [e3, e4, e5, if_true, if_false] at h1 h2 ⊢
          exact ⟨h1, fun h => absurd (sgn_zero.1 h) e5⟩
        · simp only [e3, e4, if_false] at h1 h2 ⊢
          have := sgn_trans h1 h2
          have e5 : ¬ a.i = c.i := fun e => by
            have := this.2 (sgn_zero.2 e)
            exact e3 (sgn_zero.1 this.1)
          simp only [e5, if_false]
          exact ⟨this.1, fun h => absurd (sgn_zero.1 h) e5⟩
    · simp only [e1, e2, if_true, if_false] at h1 h2 ⊢
      exact ⟨h2, fun h => absurd (sgn_zero.1 h) e2⟩
  · by_cases e2 : b.k = c.k
    · have e5 : ¬ a.k = c.k := fun e => e1 (by omega)
      simp only [e1, e2, e5, if_true, if_false] at h1 h2 ⊢
      exact ⟨h1, fun h => absurd (sgn_zero.1 h) e5⟩
    · simp only [e1, e2, if_false] at h1 h2 ⊢
      have := sgn_trans h1 h2
      have e5 : ¬ a.k = c.k := fun e => by
        have := this.2 (sgn_zero.2 e)
        exact e1 (sgn_zero.1 this.1)
      simp only [e5, if_false]
      exact ⟨this.1, fun h => absurd (sgn_zero.1 h) e5⟩
theorem cmpV_self (a : Val) : cmpV a a = 0 := cmpV_zero.2 rfl

def colAt (b : Rows) (j : Int) (k : Nat) : Val := colN (b.getD k (.lst, [])).2 j
theorem colAt_get {b : Rows} {j : Int} {k : Nat} (h : k < b.length) : colAt b j k = colN b[k].2 j := by
  unfold colAt; rw [List.getD_eq_getElem?_getD, List.getElem?_eq_getElem h]; rfl
def srtB (b : Rows) (j : Int) (lo n : Nat) : Bool := (List.range n).all fun t => decide (cmpV (colAt b j (lo + t)) (colAt b j (lo + t + 1)) ≤ 0)
theorem srtB_front {b : Rows} {j : Int} {lo n : Nat} : srtB b j lo (n + 1) = (decide (cmpV (colAt b j lo) (colAt b j (lo + 1)) ≤ 0) && srtB b j (lo + 1) n) := by
  unfold srtB
  rw [List.range_succ_eq_map, List.all_cons, List.all_map]
  congr 1
  congr 1
  funext t
  simp only [Function.comp, Nat.succ_eq_add_one]
  rw [show lo + (t + 1) = lo + 1 + t by omega]
theorem srtB_back {b : Rows} {j : Int} {lo n : Nat} : srtB b j lo (n + 1) = (srtB b j lo n && decide (cmpV (colAt b j (lo + n)) (colAt b j (lo + n + 1)) ≤ 0)) := by
  unfold srtB
  rw [List.range_succ, List.all_append, List.all_cons, List.all_nil, Bool.and_true]
abbrev srt (b : Rows) (j : Int) : Bool := srtB b j 0 (b.length - 1)

theorem colN_short {b : Rows} {j : Int} (hb : RowsFit b) (hj : AllCol b j) {p : SlF × List Val} (hp : p ∈ b) : Short (colN p.2 j) := by
  obtain ⟨_, h2⟩ := hb.2 _ hp
  have h3 := hj _ hp
  rw [← colN_get h3]
  exact h2 _ (List.getElem_mem _)
theorem X32_loop {f : SlF} {b : Rows} {j : Int} (hb : RowsFit b) (hj : AllCol b j) : ∀ (n i : Nat), b.length = i + 1 + n →
    Run T (Res [.tmp 4] (.bool (srtB b j i n))) (.inLoop X32.b0 :: X32.k0) (mkE 29 [(0, rowsA f b), (1, .int .i64 j), (5, .int .i64 ((i + 1 : Nat) : Int))]) [] := by
  have hb1 := hb.1
  intro n
  induction n with
  | zero =>
    intro i hn
    rw [run_round, run_unfold X32.b0.eq_1]
    have h1 : ¬ ((i + 1 : Nat) : Int) < b.length := by omega
    simp (maxSteps := 2000000) only [go_sem, run_unfold X32.c0.eq_1, X32.k0, h1]
    rfl
  | succ n ih =>
    intro i hn
    rw [run_round, run_unfold X32.b0.eq_1]
    have h1 : i + 1 < b.length := by omega
    have h2 : i < b.length := by omega
    have hj1 := hj _ (List.getElem_mem h1)
    have hj2 := hj _ (List.getElem_mem h2)
    have a1 := fun {σ : Sto} => @iaddrV_int' 3 b[i + 1].1 Val (fun v => .agg [.int .i64 v.k, .int .i64 v.i, .str v.s]) b[i + 1].2 .i64 j σ hj1
    have a2 := fun {σ : Sto} => @iaddrV_int' 3 b[i].1 Val (fun v => .agg [.int .i64 v.k, .int .i64 v.i, .str v.s]) b[i].2 .i64 j σ hj2
    simp only [colN_get hj1] at a1
    simp only [colN_get hj2] at a2
    have hw : IntKind.i64.wrap (((i + 1 : Nat) : Int) - 1) = (i : Int) := by rw [show ((i + 1 : Nat) : Int) - 1 = (i : Int) by omega]; exact wrap_nat (by omega)
    have w1 := wrap_succ (show i + 1 < 9223372036854775807 by omega)
    have s1 := colN_short hb hj (List.getElem_mem h1)
    have s2 := colN_short hb hj (List.getElem_mem h2)
    have hc := @X54_call (colN b[i].2 j) (colN b[i + 1].2 j) s2 s1
    rw [srtB_front, colAt_get h1, colAt_get h2]
    have ih' := ih (i + 1) (by omega)
    by_cases h : 0 < cmpV (colN b[i].2 j) (colN b[i + 1].2 j)
    · have h' : decide (cmpV (colN b[i].2 j) (colN b[i + 1].2 j) ≤ 0) = false := decide_eq_false (by omega)
      rw [h', Bool.false_and]
      simp (maxSteps := 2000000) only [go_sem, h1, h2, a1, a2, hw, hc, h, run_unfold X32.c0.eq_1, X32.k0]
      done
    · have h' : decide (cmpV (colN b[i].2 j) (colN b[i + 1].2 j) ≤ 0) = true := decide_eq_true (by omega)
      rw [h', Bool.true_and]
      simp (maxSteps := 2000000) only [go_sem, h1, h2, a1, a2, hw, hc, h, run_unfold X32.c0.eq_1, X32.k0, w1]
      exact ih'
theorem X32_spec {f : SlF} {b : Rows} {j : Int} (hb : RowsFit b) (hj : AllCol b j) {lv : List Nat} {σ : Sto} {R : Post} : Cw T true i_X32 [rowsA f b, .int .i64 j] lv σ R ↔ R (.bool (srt b j)) σ := by
  refine cw_intro T_X32 (by simp only [go_sem]) (by simp) ?_; rw [run_unfold X32.main.eq_1]
  simp (maxSteps := 2000000) only [go_sem]
  by_cases h0 : b.length = 0
  · have : b = [] := List.eq_nil_of_length_eq_zero h0
    subst this
    rw [run_round, run_unfold X32.b0.eq_1]
    simp (maxSteps := 2000000) only [go_sem, run_unfold X32.c0.eq_1, X32.k0]
    rfl
  · exact X32_loop (f := f) hb hj (b.length - 1) 0 (by omega)
@[go_sem] theorem X32_call {f : SlF} {b : Rows} {j : Int} (hb : RowsFit b) (hj : AllCol b j) {Q : Post3} {k : List Item} {os : List AOper} {d : Option Nat} {e : Env} {σ : Sto} : CallK T Q k os d e σ true i_X32 [rowsA f b, .int .i64 j] ↔ Run T Q (.ops os :: k) (put e d (.bool (srt b j))) σ := X32_spec hb hj


theorem X11_spec {f g : SlF} {x y : List Val} {j : Int} (hx : 0 ≤ j ∧ j < x.length) (hy : 0 ≤ j ∧ j < y.length) {lv : List Nat} {σ : Sto} {R : Post} : Cw T true i_X11 [rowA f x, rowA g y, .fptr [.int .i64 j]] lv σ R ↔ R (.int .i64 (cmpV (colN x j) (colN y j))) σ := by
  refine cw_intro T_X11 (by simp only [go_sem]) (by simp) ?_; rw [run_unfold X11.main.eq_1]
  have a1 := fun {σ : Sto} => @iaddrV_int' 3 f Val (fun v => .agg [.int .i64 v.k, .int .i64 v.i, .str v.s]) x .i64 j σ hx
  have a2 := fun {σ : Sto} => @iaddrV_int' 3 g Val (fun v => .agg [.int .i64 v.k, .int .i64 v.i, .str v.s]) y .i64 j σ hy
  simp only [colN_get hx] at a1
  simp only [colN_get hy] at a2
  simp (maxSteps := 2000000) only [go_sem, a1, a2, X33_call]
  done
@[go_sem] theorem X11_call {f g : SlF} {x y : List Val} {j : Int} (hx : 0 ≤ j ∧ j < x.length) (hy : 0 ≤ j ∧ j < y.length) {Q : Post3} {k : List Item} {os : List AOper} {d : Option Nat} {e : Env} {σ : Sto} : CallK T Q k os d e σ true i_X11 [rowA f x, rowA g y, .fptr [.int .i64 j]] ↔ Run T Q (.ops os :: k) (put e d (.int .i64 (cmpV (colN x j) (colN y j)))) σ := X11_spec hx hy

theorem X16_spec {j : Int} {lv : List Nat} {σ : Sto} {R : Post} : Cw T true i_X16 [.int .i64 j] lv σ R ↔ R (.clo (.func i_X11) [] [.fptr [.int .i64 j]]) σ := by
  refine cw_intro T_X16 (by simp only [go_sem]) (by simp) ?_; rw [run_unfold X16.main.eq_1]
  have hs := snap_clo1 (n := 61) (o := 0) (gen := 1) (nl := false) (cs := [.int .i64 j]) (g := .func i_X11) (σ := [.cells false [.int .i64 j]]) rfl rfl (by simp (maxSteps := 2000000) only [go_sem])
  simp (maxSteps := 2000000) only [go_sem, hs]
  done
@[go_sem] theorem X16_call {j : Int} {Q : Post3} {k : List Item} {os : List AOper} {d : Option Nat} {e : Env} {σ : Sto} : CallK T Q k os d e σ true i_X16 [.int .i64 j] ↔ Run T Q (.ops os :: k) (put e d (.clo (.func i_X11) [] [.fptr [.int .i64 j]])) σ := X16_spec

theorem IsSorted_loop {f : SlF} {b : Rows} {j : Int} (hb : RowsFit b) (hj : AllCol b j) : ∀ i, i < b.length →
    Run T (Res [.tmp 4] (.bool (srtB b j 0 i))) (.inLoop X0.b0 :: X0.k0) (mkE 25 [(0, rowsA f b), (1, .clo (.func i_X11) [] [.fptr [.int .i64 j]]), (5, .int .i64 (i : Int))]) [] := by
  have hb1 := hb.1
  intro i
  induction i with
  | zero =>
    intro hi
    rw [run_round, run_unfold X0.b0.eq_1]
    simp (maxSteps := 2000000) only [go_sem, run_unfold X0.c0.eq_1, run_unfold X0.c1.eq_1, X0.k0, Int.lt_irrefl]
    rfl
  | succ i ih =>
    intro h1
    rw [run_round, run_unfold X0.b0.eq_1]
    have h2 : i < b.length := by omega
    have hj1 := hj _ (List.getElem_mem h1)
    have hj2 := hj _ (List.getElem_mem h2)
    have hw : IntKind.i64.wrap (((i + 1 : Nat) : Int) - 1) = (i : Int) := by rw [show ((i + 1 : Nat) : Int) - 1 = (i : Int) by omega]; exact wrap_nat (by omega)
    have h0 : (0 : Int) < ((i + 1 : Nat) : Int) := by omega
    have hc := @X11_call b[i + 1].1 b[i].1 b[i + 1].2 b[i].2 j hj1 hj2
    rw [srtB_back, Nat.zero_add, colAt_get h1, colAt_get h2]
    have ih' := ih h2
    have an := cmpV_anti (colN b[i].2 j) (colN b[i + 1].2 j)
    by_cases h : cmpV (colN b[i + 1].2 j) (colN b[i].2 j) < 0
    · have h' : decide (cmpV (colN b[i].2 j) (colN b[i + 1].2 j) ≤ 0) = false := decide_eq_false (by omega)
      rw [h', Bool.and_false]
      simp (maxSteps := 2000000) only [go_sem, h0, h1, h2, hw, hc, h, run_unfold X0.c0.eq_1, run_unfold X0.c1.eq_1, X0.k0]
      done
    · have h' : decide (cmpV (colN b[i].2 j) (colN b[i + 1].2 j) ≤ 0) = true := decide_eq_true (by omega)
      rw [h', Bool.and_true]
      simp (maxSteps := 2000000) only [go_sem, h0, h1, h2, hw, hc, h, run_unfold X0.c0.eq_1, run_unfold X0.c1.eq_1, X0.k0]
      exact ih'
theorem X0_spec {f : SlF} {b : Rows} {j : Int} (hb : RowsFit b) (hj : AllCol b j) {lv : List Nat} {σ : Sto} {R : Post} : Cw T true i_X0 [rowsA f b, .clo (.func i_X11) [] [.fptr [.int .i64 j]]] lv σ R ↔ R (.bool (srt b j)) σ := by
  refine cw_intro T_X0 (by simp only [go_sem]) (by simp) ?_; rw [run_unfold X0.main.eq_1]
  have hb1 := hb.1
  by_cases h0 : b.length = 0
  · have : b = [] := List.eq_nil_of_length_eq_zero h0
    subst this
    have hm : IntKind.i64.wrap (0 - 1) = -1 := by decide
    simp (maxSteps := 2000000) only [go_sem, hm]
    rw [run_round, run_unfold X0.b0.eq_1]
    simp (maxSteps := 2000000) only [go_sem, run_unfold X0.c0.eq_1, run_unfold X0.c1.eq_1, X0.k0, show ¬ (0 : Int) < -1 by decide]
    rfl
  · have hw : IntKind.i64.wrap ((b.length : Int) - 1) = ((b.length - 1 : Nat) : Int) := by rw [wrap_i64 (by omega) (by omega)]; omega
    simp (maxSteps := 2000000) only [go_sem, hw]
    exact IsSorted_loop (f := f) hb hj (b.length - 1) (by omega)
@[go_sem] theorem X0_call {f : SlF} {b : Rows} {j : Int} (hb : RowsFit b) (hj : AllCol b j) {Q : Post3} {k : List Item} {os : List AOper} {d : Option Nat} {e : Env} {σ : Sto} : CallK T Q k os d e σ true i_X0 [rowsA f b, .clo (.func i_X11) [] [.fptr [.int .i64 j]]] ↔ Run T Q (.ops os :: k) (put e d (.bool (srt b j))) σ := X0_spec hb hj

end Go.Abs
/- Walks of chapter 40: the reference's Sort. -/
set_option linter.unusedSimpArgs false
set_option linter.unusedVariables false
set_option maxRecDepth 100000
set_option maxHeartbeats 4000000
namespace Go.Abs
open Go
attribute [local go_sem_proc] Nat.reduceLT Nat.reduceEqDiff Nat.reduceLeDiff Nat.reduceAdd Nat.reduceSub Nat.reduceMul Int.reduceLT Int.reduceLE Int.reduceEq Int.reduceNeg
attribute [local go_sem_proc ↓] reduceIte

def atN (D : Rows) (v : Val) (j : Int) : Nat → Nat
 | 0 => 0
 | n + 1 => if cmpV v (colAt D j n) < 0 then atN D v j n else n + 1
theorem atN_le {D : Rows} {v : Val} {j : Int} : ∀ n, atN D v j n ≤ n
 | 0 => Nat.le_refl _
 | n + 1 => by unfold atN; split; exact Nat.le_succ_of_le (atN_le n); exact Nat.le_refl _
def insR (D : Rows) (p : SlF × List Val) (j : Int) : Rows := D.take (atN D (colN p.2 j) j D.length) ++ p :: D.drop (atN D (colN p.2 j) j D.length)
def srtL (l : Rows) (j : Int) (D : Rows) : Rows := l.foldl (fun D p => insR D p j) D

theorem sort_at {f : SlF} {l D : Rows} {j : Int} {i : Nat} {Q : Post3} {K : List Item} {σ : Sto} (hl : RowsFit l) (hj : AllCol l j) (hD : RowsFit D) (hjD : AllCol D j) (hi : i < l.length) : ∀ n, n ≤ D.length →
  Run T Q K (mkE 56 [(0, rowsA f l), (1, .int .i64 j), (5, rowsA .lst D), (6, .int .i64 i), (7, .int .i64 (atN D (colN l[i].2 j) j n : Nat))]) σ →
  Run T Q (.inLoop X43.b1 :: .inBlock 2 :: .code (.ghost (.kill [37])) :: K) (mkE 56 [(0, rowsA f l), (1, .int .i64 j), (5, rowsA .lst D), (6, .int .i64 i), (7, .int .i64 n)]) σ := by
 have hl1 := hl.1
 have hD1 := hD.1
 have hj1 := hj _ (List.getElem_mem hi)
 have a1 := fun {σ : Sto} => @iaddrV_int' 3 l[i].1 Val (fun v => .agg [.int .i64 v.k, .int .i64 v.i, .str v.s]) l[i].2 .i64 j σ hj1
 simp only [colN_get hj1] at a1
 have s1 := colN_short hl hj (List.getElem_mem hi)
 intro n
 induction n with
 | zero =>
  intro hn next
  rw [run_round, run_unfold X43.b1.eq_1]
  simp (maxSteps := 2000000) only [go_sem, Int.lt_irrefl]
  exact next
 | succ n ih =>
  intro hn next
  rw [run_round, run_unfold X43.b1.eq_1]
  have h2 : n < D.length := by omega
  have h0 : (0 : Int) < ((n + 1 : Nat) : Int) := by omega
  have hw : IntKind.i64.wrap (((n + 1 : Nat) : Int) - 1) = (n : Int) := by rw [show ((n + 1 : Nat) : Int) - 1 = (n : Int) by omega]; exact wrap_nat (by omega)
  have hj2 := hjD _ (List.getElem_mem h2)
  have a2 := fun {σ : Sto} => @iaddrV_int' 3 D[n].1 Val (fun v => .agg [.int .i64 v.k, .int .i64 v.i, .str v.s]) D[n].2 .i64 j σ hj2
  simp only [colN_get hj2] at a2
  have s2 := colN_short hD hjD (List.getElem_mem h2)
  have hc := @X54_call (colN l[i].2 j) (colN D[n].2 j) s1 s2
  unfold atN at next
  rw [colAt_get h2] at next
  by_cases h : cmpV (colN l[i].2 j) (colN D[n].2 j) < 0
  ·rw [if_pos h] at next
   have ih' := ih (by omega) next
   simp (maxSteps := 2000000) only [go_sem, h0, hw, hi, h2, a1, a2, hc, h]
   exact ih'
  ·rw [if_neg h] at next
   simp (maxSteps := 2000000) only [go_sem, h0, hw, hi, h2, a1, a2, hc, h]
   exact next

theorem freeze_rows {σ : Sto} {o : Nat} {l : Rows} (hσ : σ[o]? = some (.cells false (l.map fun p => rowA p.1 p.2))) : freezeV (.ref o l.length 0 l.length 1) σ = some (rowsA .lst l, σ.set o .dead) := by
 have hl : (l.map fun p => rowA p.1 p.2).length = l.length := List.length_map ..
 have hp : AVal.pures (l.map fun p => rowA p.1 p.2) = true := v_names_map (fun _ => sv_pure) l
 simp only [freezeV, hσ, hl, hp, Nat.zero_add, Nat.mul_one, Nat.le_refl, true_and, and_self, Bool.false_and, List.drop_zero, Bool.false_eq_true, if_false, Nat.zero_lt_one, if_true]
 have hc := chunk_one (l.map fun p => rowA p.1 p.2)
 rw [hl] at hc
 rw [List.take_of_length_le (by rw [hl]; exact Nat.le_refl _), hc, rowsA, sv_lst]
theorem insR_mem {D : Rows} {p : SlF × List Val} {j : Int} {q : SlF × List Val} (h : q ∈ insR D p j) : q = p ∨ q ∈ D := by
 unfold insR at h
 rcases List.mem_append.1 h with h | h
 ·exact .inr (List.mem_of_mem_take h)
 ·rcases List.mem_cons.1 h with h | h
  ·exact .inl h
  ·exact .inr (List.mem_of_mem_drop h)
theorem insR_fit {D : Rows} {p : SlF × List Val} {j : Int} (hn : D.length < 1000000) (h : RowsFit D) (hp : Fits p.2 ∧ ∀ v ∈ p.2, Short v) : RowsFit (insR D p j) := by
 refine ⟨by simp only [insR, List.length_append, List.length_cons, List.length_take, List.length_drop]; omega, fun q hq => ?_⟩
 rcases insR_mem hq with rfl | hq
 ·exact hp
 ·exact h.2 _ hq
theorem insR_all {D : Rows} {p : SlF × List Val} {j : Int} (h : AllCol D j) (hp : 0 ≤ j ∧ j < p.2.length) : AllCol (insR D p j) j := by
 intro q hq
 rcases insR_mem hq with rfl | hq
 ·exact hp
 ·exact h _ hq
theorem sort_loop {f : SlF} {l : Rows} {j : Int} (hl : RowsFit l) (hj : AllCol l j) : ∀ i, i ≤ l.length → ∀ D, D.length = i → RowsFit D → AllCol D j →
  Run T (Res [.tmp 4] (rowsA .lst (srtL (l.drop i) j D))) (.inLoop X43.b0 :: X43.k0) (mkE 56 [(0, rowsA f l), (1, .int .i64 j), (5, rowsA .lst D), (6, .int .i64 i)]) [.dead] := by
 have hl1 := hl.1
 refine up_ind (fun D h1 h2 h3 => ?_) fun i hi ih D h1 h2 h3 => ?_
 ·rw [run_round, run_unfold X43.b0.eq_1]
  simp (maxSteps := 2000000) only [go_sem, run_unfold X43.c0.eq_1, run_unfold X43.c1.eq_1, run_unfold X43.c2.eq_1, run_unfold X43.c3.eq_1, X43.k0, X43.k1, List.drop_length, Int.lt_irrefl]
  rfl
 ·rw [List.drop_eq_getElem_cons hi]
  rw [run_round, run_unfold X43.b0.eq_1]
  have hsl : srtL (l[i] :: l.drop (i + 1)) j D = srtL (l.drop (i + 1)) j (insR D l[i] j) := rfl
  rw [hsl]
  have hK := atN_le (D := D) (v := colN l[i].2 j) (j := j) D.length
  have h4 := ih (insR D l[i] j) (by simp only [insR, List.length_append, List.length_cons, List.length_take, List.length_drop]; omega) (insR_fit (by omega) h2 (hl.2 _ (List.getElem_mem hi))) (insR_all h3 (hj _ (List.getElem_mem hi)))
  have w1 := wrap_succ (show i < 9223372036854775807 by omega)
  simp (maxSteps := 2000000) only [go_sem, hi, X43.k1]
  refine sort_at hl hj h2 h3 hi D.length (Nat.le_refl _) ?_
  unfold insR at h4 ⊢
  generalize atN D (colN l[i].2 j) j D.length = K at hK h4 ⊢
  have t1 := fun {σ : Sto} => @slice_sv_take σ (SlF × List Val) (fun p => rowA p.1 p.2) D .i64 1 K hK
  have t2 := fun {σ : Sto} => @slice_sv_drop σ (SlF × List Val) (fun p => rowA p.1 p.2) D .i64 1 K hK
  have hlen : (D.take K).length + (D.drop K).length = D.length := by rw [← List.length_append, List.take_append_drop]
  generalize D.take K = X at *
  generalize D.drop K = Y at *
  have g1 := fun {σ : Sto} (hσ : σ[1]? = some (.cells false [])) => appendV_ones (σ := σ) (o := 1) (bytes := 24) (f := .lst) (g := fun p : SlF × List Val => rowA p.1 p.2) (X := []) (Y := X) (fun _ => sv_one') hσ (by simp only [List.length_nil, maxBytes]; omega)
  have g2 := fun {σ : Sto} (hσ : σ[1]? = some (.cells false (X.map fun p => rowA p.1 p.2))) (hσ' : σ[2]? = some (.cells false [rowA l[i].1 l[i].2])) => appendV_one (σ := σ) (o := 1) (o' := 2) (bytes := 24) (g := fun p : SlF × List Val => rowA p.1 p.2) (X := X) (y := l[i]) (fun _ => sv_one') hσ hσ' (by simp only [maxBytes]; omega)
  have g3 := fun {σ : Sto} (hσ : σ[1]? = some (.cells false ((X ++ [l[i]]).map fun p => rowA p.1 p.2))) => appendV_ones (σ := σ) (o := 1) (bytes := 24) (f := .lst) (g := fun p : SlF × List Val => rowA p.1 p.2) (X := X ++ [l[i]]) (Y := Y) (fun _ => sv_one') hσ (by simp only [List.length_append, List.length_cons, List.length_nil, maxBytes]; omega)
  simp only [List.length_nil, List.nil_append] at g1
  simp (maxSteps := 2000000) only [go_sem, run_unfold X43.c0.eq_1, run_unfold X43.c1.eq_1, run_unfold X43.c2.eq_1, run_unfold X43.c3.eq_1, X43.k0, X43.k1, t1, t2]
  rw [g1 rfl]
  simp (maxSteps := 2000000) only [go_sem, hi]
  rw [g2 rfl rfl]
  simp (maxSteps := 2000000) only [go_sem, t2]
  rw [g3 rfl]
  simp (maxSteps := 2000000) only [go_sem, run_unfold X43.c0.eq_1, run_unfold X43.c1.eq_1, run_unfold X43.c2.eq_1, run_unfold X43.c3.eq_1, X43.k0, X43.k1]
  rw [freeze_rows (l := X ++ [l[i]] ++ Y) rfl]
  rw [List.append_assoc, List.singleton_append] at *
  simp (maxSteps := 2000000) only [go_sem, run_unfold X43.c0.eq_1, run_unfold X43.c1.eq_1, run_unfold X43.c2.eq_1, run_unfold X43.c3.eq_1, X43.k0, X43.k1, w1]
  exact h4
theorem X43_spec {f : SlF} {l : Rows} {j : Int} (hl : RowsFit l) (hj : AllCol l j) {lv : List Nat} {σ : Sto} {R : Post} : Cw T true i_X43 [rowsA f l, .int .i64 j] lv σ R ↔ R (rowsA .lst (srtL l j [])) σ := by
 refine cw_intro T_X43 (by simp only [go_sem]) (by simp) ?_; rw [run_unfold X43.main.eq_1]
 have h0 := sort_loop (f := f) hl hj 0 (by omega) [] rfl ⟨by simp, fun p hp => by simp at hp⟩ (fun p hp => by simp at hp)
 simp only [List.drop_zero] at h0
 have fz := freeze_rows (σ := [.cells false []]) (o := 0) (l := []) rfl
 simp only [List.length_nil] at fz
 simp (maxSteps := 2000000) only [go_sem, fz]
 exact h0
@[go_sem] theorem X43_call {f : SlF} {l : Rows} {j : Int} (hl : RowsFit l) (hj : AllCol l j) {Q : Post3} {k : List Item} {os : List AOper} {d : Option Nat} {e : Env} {σ : Sto} : CallK T Q k os d e σ true i_X43 [rowsA f l, .int .i64 j] ↔ Run T Q (.ops os :: k) (put e d (rowsA .lst (srtL l j []))) σ := X43_spec hl hj

end Go.Abs
/- Walks of chapter 40: partners by merging. -/
set_option linter.unusedSimpArgs false
set_option linter.unusedVariables false
set_option maxRecDepth 100000
set_option maxHeartbeats 4000000
namespace Go.Abs
open Go
attribute [local go_sem_proc] Nat.reduceLT Nat.reduceEqDiff Nat.reduceLeDiff Nat.reduceAdd Nat.reduceSub Nat.reduceMul Int.reduceLT Int.reduceLE Int.reduceEq Int.reduceNeg
attribute [local go_sem_proc ↓] reduceIte

abbrev mS (X : AObj) (b : Rows) (i j : Int) (m : Nat) (τ : Sto) : Sto := X :: .cells false [rowsA .lst b] :: .cells false [.int .i64 i, .int .i64 j] :: .cells false [.int .i64 (m : Int)] :: τ
abbrev mC : AVal := .clo (.func i_X17) [] [.ptr 2 2 0, .ptr 3 1 0, .ptr 1 1 0]
theorem merge_call {b : Rows} {i j : Int} {X : AObj} {R : Post} : Cw T false i_X25 [rowsA .lst b, onA i j] [] [X] R ↔ R mC (mS X b i j 0 []) := by
 rw [cw_enter T_X25 (by simp), run_unfold X25.main.eq_1]
 simp (maxSteps := 2000000) only [go_sem]
 exact Iff.rfl
def lessP (j : Int) (v : Val) (q : SlF × List Val) : Bool := decide (cmpV (colN q.2 j) v < 0)
def sameP (j : Int) (v : Val) (q : SlF × List Val) : Bool := !decide (v.k = 0) && decide (colN q.2 j = v)
def skipN (b : Rows) (j : Int) (v : Val) (m : Nat) : Nat := m + ((b.drop m).takeWhile (lessP j v)).length
def sameN (b : Rows) (j : Int) (v : Val) (m : Nat) : Nat := m + ((b.drop m).takeWhile (sameP j v)).length

theorem skip_end {b : Rows} {j : Int} {v : Val} : skipN b j v b.length = b.length := by simp [skipN]
theorem same_end {b : Rows} {j : Int} {v : Val} : sameN b j v b.length = b.length := by simp [sameN]
theorem skip_yes {b : Rows} {j : Int} {v : Val} {k : Nat} (hk : k < b.length) (h : lessP j v b[k] = true) : skipN b j v k = skipN b j v (k + 1) := by
 simp only [skipN, List.drop_eq_getElem_cons hk, List.takeWhile_cons, h, if_true, List.length_cons]; omega
theorem skip_no {b : Rows} {j : Int} {v : Val} {k : Nat} (hk : k < b.length) (h : lessP j v b[k] = false) : skipN b j v k = k := by
 simp only [skipN, List.drop_eq_getElem_cons hk, List.takeWhile_cons, h, Bool.false_eq_true, if_false, List.length_nil, Nat.add_zero]
theorem same_yes {b : Rows} {j : Int} {v : Val} {k : Nat} (hk : k < b.length) (h : sameP j v b[k] = true) : sameN b j v k = sameN b j v (k + 1) := by
 simp only [sameN, List.drop_eq_getElem_cons hk, List.takeWhile_cons, h, if_true, List.length_cons]; omega
theorem same_no {b : Rows} {j : Int} {v : Val} {k : Nat} (hk : k < b.length) (h : sameP j v b[k] = false) : sameN b j v k = k := by
 simp only [sameN, List.drop_eq_getElem_cons hk, List.takeWhile_cons, h, Bool.false_eq_true, if_false, List.length_nil, Nat.add_zero]
theorem skip_le {b : Rows} {j : Int} {v : Val} {k : Nat} (h : k ≤ b.length) : k ≤ skipN b j v k ∧ skipN b j v k ≤ b.length := by
 unfold skipN
 have := (List.takeWhile_sublist (lessP j v) (l := b.drop k)).length_le
 rw [List.length_drop] at this; omega
theorem same_le {b : Rows} {j : Int} {v : Val} {k : Nat} (h : k ≤ b.length) : k ≤ sameN b j v k ∧ sameN b j v k ≤ b.length := by
 unfold sameN
 have := (List.takeWhile_sublist (sameP j v) (l := b.drop k)).length_le
 rw [List.length_drop] at this; omega

theorem merge1_same {b : Rows} {i j : Int} {X : AObj} {τ : Sto} {v : Val} {m : Nat} {Q : Post3} (hb : RowsFit b) (hj : AllCol b j) : ∀ k, k ≤ b.length →
  Run T Q (.code X17.c0 :: []) (mkE 61 [(1, .ptr 2 2 0), (2, .ptr 3 1 0), (3, .ptr 1 1 0), (7, .int .i64 (sameN b j v k : Nat))]) (mS X b i j m (τ ++ [vO v])) →
  Run T Q (.inLoop X17.b1 :: X17.k1) (mkE 61 [(1, .ptr 2 2 0), (2, .ptr 3 1 0), (3, .ptr 1 1 0), (6, .ptr (τ.length + 4) 3 0), (7, .int .i64 k)]) (mS X b i j m (τ ++ [vO v])) := by
 have hb1 := hb.1
 refine up_ind (fun next => ?_) fun k hk ih next => ?_
 ·rw [run_round, run_unfold X17.b1.eq_1]
  rw [same_end] at next
  simp only [mS] at next
  simp (maxSteps := 2000000) only [go_sem, mS]
  exact next
 ·rw [run_round, run_unfold X17.b1.eq_1]
  have hj2 := hj _ (List.getElem_mem hk)
  have a2 := fun {σ : Sto} => @iaddrV_int' 3 b[k].1 Val (fun v => .agg [.int .i64 v.k, .int .i64 v.i, .str v.s]) b[k].2 .i64 j σ hj2
  simp only [colN_get hj2] at a2
  have w1 := wrap_succ (show k < 9223372036854775807 by omega)
  simp only [mS] at next ih
  by_cases h0 : v.k = 0
  ·have hs : sameP j v b[k] = false := by simp [sameP, h0]
   rw [same_no hk hs] at next
   simp (maxSteps := 2000000) only [go_sem, mS, hk, get_last, h0]
   exact next
  ·by_cases he : colN b[k].2 j = v
   ·have hs : sameP j v b[k] = true := by simp [sameP, h0, he]
    have he' : decide (colN b[k].2 j = v) = true := decide_eq_true he
    rw [same_yes hk hs] at next
    simp (maxSteps := 2000000) only [go_sem, mS, hk, get_last, h0, a2, val_eta, he', w1]
    exact ih next
   ·have hs : sameP j v b[k] = false := by simp [sameP, h0, he]
    have he' : decide (colN b[k].2 j = v) = false := decide_eq_false he
    rw [same_no hk hs] at next
    simp (maxSteps := 2000000) only [go_sem, mS, hk, get_last, h0, a2, val_eta, he', w1]
    exact next
theorem merge1_skip {b : Rows} {i j : Int} {X : AObj} {τ : Sto} {v : Val} {Q : Post3} (hb : RowsFit b) (hj : AllCol b j) : ∀ m, m ≤ b.length →
  Run T Q (.code X17.c1 :: []) (mkE 61 [(1, .ptr 2 2 0), (2, .ptr 3 1 0), (3, .ptr 1 1 0), (6, .ptr (τ.length + 4) 3 0)]) (mS X b i j (skipN b j v m) (τ ++ [vO v])) →
  Run T Q (.inLoop X17.b0 :: X17.k0) (mkE 61 [(1, .ptr 2 2 0), (2, .ptr 3 1 0), (3, .ptr 1 1 0), (6, .ptr (τ.length + 4) 3 0)]) (mS X b i j m (τ ++ [vO v])) := by
 have hb1 := hb.1
 refine up_ind (fun next => ?_) fun k hk ih next => ?_
 ·rw [run_round, run_unfold X17.b0.eq_1]
  rw [skip_end] at next
  simp only [mS] at next
  simp (maxSteps := 2000000) only [go_sem, mS]
  exact next
 ·rw [run_round, run_unfold X17.b0.eq_1]
  have hj2 := hj _ (List.getElem_mem hk)
  have a2 := fun {σ : Sto} => @iaddrV_int' 3 b[k].1 Val (fun v => .agg [.int .i64 v.k, .int .i64 v.i, .str v.s]) b[k].2 .i64 j σ hj2
  simp only [colN_get hj2] at a2
  have w1 := wrap_succ (show k < 9223372036854775807 by omega)
  have hc := @X33_call (colN b[k].2 j) v
  simp only [mS] at next ih
  by_cases h : cmpV (colN b[k].2 j) v < 0
  ·have hs : lessP j v b[k] = true := decide_eq_true h
   rw [skip_yes hk hs] at next
   simp (maxSteps := 2000000) only [go_sem, mS, hk, get_last, a2, val_eta, hc, h, w1]
   exact ih next
  ·have hs : lessP j v b[k] = false := decide_eq_false h
   rw [skip_no hk hs] at next
   simp (maxSteps := 2000000) only [go_sem, mS, hk, get_last, a2, val_eta, hc, h, w1]
   exact next
abbrev partM (b : Rows) (j : Int) (v : Val) (m : Nat) : Rows := (b.take (sameN b j v (skipN b j v m))).drop (skipN b j v m)
theorem merge1_call {fx : SlF} {x : List Val} {b : Rows} {i j : Int} {X : AObj} {τ : Sto} {m : Nat} {R : Post} (hb : RowsFit b) (hj : AllCol b j) (hi : 0 ≤ i ∧ i < x.length) (hm : m ≤ b.length)
  (hR : R (.clo (.func i_X4) [] [.fptr [rowsA .lst (partM b j (colN x i) m)]]) (mS X b i j (skipN b j (colN x i) m) (τ ++ [vO (colN x i)]))) : Cw T false i_X17 [rowA fx x, .ptr 2 2 0, .ptr 3 1 0, .ptr 1 1 0] [] (mS X b i j m τ) R := by
 have a1 := fun {σ : Sto} => @iaddrV_int' 3 fx Val (fun v => .agg [.int .i64 v.k, .int .i64 v.i, .str v.s]) x .i64 i σ hi
 simp only [colN_get hi] at a1
 have l1 := skip_le (b := b) (j := j) (v := colN x i) hm
 have l2 := same_le (b := b) (j := j) (v := colN x i) l1.2
 rw [cw_enter T_X17 (by simp), run_unfold X17.main.eq_1]
 simp (maxSteps := 2000000) only [go_sem, mS, a1, get_last, set_last]
 refine merge1_skip (v := colN x i) hb hj m hm ?_
 simp (maxSteps := 2000000) only [go_sem, run_unfold X17.c0.eq_1, run_unfold X17.c1.eq_1, X17.k0, X17.k1, mS]
 refine merge1_same (v := colN x i) hb hj _ l1.2 ?_
 have hsl : ∀ {σ : Sto}, sliceV 1 (rowsA .lst b) (some (.int .i64 ((skipN b j (colN x i) m : Nat) : Int))) (some (.int .i64 ((sameN b j (colN x i) (skipN b j (colN x i) m) : Nat) : Int))) none σ = some (rowsA .lst (partM b j (colN x i) m), σ) := by
  intro σ
  rw [rowsA, sv_lst, slice_mid l2.1 (by rw [List.length_map]; exact l2.2), rowsA, sv_lst, ← List.map_take, ← List.map_drop]
 simp only [mS] at hR
 simp (maxSteps := 2000000) only [go_sem, run_unfold X17.c0.eq_1, run_unfold X17.c1.eq_1, X17.k0, X17.k1, mS, hsl, X5_call]
 exact hR
end Go.Abs
/- Walks of chapter 40: rows are collected by merging. -/
set_option linter.unusedSimpArgs false
set_option linter.unusedVariables false
set_option maxRecDepth 100000
set_option maxHeartbeats 4000000
namespace Go.Abs
open Go
attribute [local go_sem_proc] Nat.reduceLT Nat.reduceEqDiff Nat.reduceLeDiff Nat.reduceAdd Nat.reduceSub Nat.reduceMul Int.reduceLT Int.reduceLE Int.reduceEq Int.reduceNeg
attribute [local go_sem_proc ↓] reduceIte
abbrev onO (i j : Int) : AObj := .cells false [.int .i64 i, .int .i64 j]
abbrev cEnv2 (of : AVal) (n : Int) (f : SlF) (a : Rows) (i : Nat) (it : AVal) : Env := mkE 50 [(1, of), (2, .int .i64 n), (6, .ptr 4 1 0), (7, .ptr 5 1 0), (8, .ptr 6 1 0), (10, .ptr 8 1 0), (11, .ptr 9 1 0), (13, rowsA f a), (14, .int .i64 a.length), (15, .int .i64 i), (21, it)]
abbrev PS2 (bb : Rows) (i0 j0 : Int) (m : Nat) (e : Env) (fx : SlF) (x : List Val) (D : List (List Val)) (fd : Bool) (st : LSt) : Sto := [onO i0 j0, .cells false [rowsA .lst bb], onO i0 j0, .cells false [.int .i64 (m : Int)], .cells false [.nils], .cells false [.int .i64 0], .cells false [.ref 7 D.length 0 D.length 1], outO D, .cells false [rowA fx x], .cells false [.bool fd], vO (colN x i0), .loop [22] X20.y0 e st]
theorem collect_yield2 {bb : Rows} {i0 j0 : Int} {m : Nat} {of it : AVal} {n : Int} {f fx fy : SlF} {a : Rows} {i : Nat} {x y : List Val} {D : List (List Val)} {fd : Bool} (hx : 0 < x.length) (hxl : x.length ≤ 1000000) (hy : y.length ≤ 1000000) (hD : D.length < 4096) (hof : of.under 12 = true) (hit : it.under 11 = true) :
  Yields 11 (rowA fy y) (PS2 bb i0 j0 m (cEnv2 of n f a i it) fx x D fd .ready) true (PS2 bb i0 j0 m (cEnv2 of n f a i it) fx x (D ++ [x ++ y]) true .ready) := by
 intro R hR
 rw [cw_yield no_yield]
 have hD' : ¬ ((D.length : Nat) : Int) = 4096 := by omega
 have hap : D.map (fun r => rowA .lst r) ++ [rowA .lst (x ++ y)] = (D ++ [x ++ y]).map (fun r => rowA .lst r) := by simp
 simp (maxSteps := 2000000) only [go_sem, putAll_one, List.length_cons, List.length_nil, true_and]
 rw [run_unfold X20.y0.eq_1]
 simp (maxSteps := 2000000) only [go_sem, hD', X41_call hx hxl hy]
 rw [appendV_push (nl := true) (nl' := false) rfl rfl (by simp) (by rw [sv_lst]; rfl) (by simp only [maxBytes]; omega)]
 simp (maxSteps := 2000000) only [go_sem]
 rw [v_names_map (fun _ => sv_pure), Bool.true_and]
 refine ⟨mkE_names fun q hq => ?_, ?_⟩
 ·simp only [List.mem_cons, List.not_mem_nil, or_false] at hq
  rcases hq with rfl | rfl | rfl | rfl | rfl | rfl | rfl | rfl | rfl | rfl | rfl
  all_goals first | exact hof | exact AVal.names_le hit (by omega) | exact sv_pure | rfl
 ·simp only [PS2, outO, ← hap, List.length_append, List.length_cons, List.length_nil] at hR
  exact hR

theorem collect_its2 {bb : Rows} {i0 j0 : Int} {m : Nat} {of it : AVal} {n : Int} {f fx : SlF} {a : Rows} {i : Nat} {x : List Val} (hx : 0 < x.length) (hxl : x.length ≤ 1000000) (hof : of.under 12 = true) (hit : it.under 11 = true) : ∀ (ys : Rows) (D : List (List Val)) (fd : Bool), (∀ p ∈ ys, p.2.length ≤ 1000000) → D.length + ys.length ≤ 4096 →
  Its (fun τ => ∃ D fd, τ = PS2 bb i0 j0 m (cEnv2 of n f a i it) fx x D fd .ready) 11 (ys.map fun p => rowA p.1 p.2) (PS2 bb i0 j0 m (cEnv2 of n f a i it) fx x D fd .ready) (PS2 bb i0 j0 m (cEnv2 of n f a i it) fx x (D ++ ys.map fun p => x ++ p.2) (fd || !ys.isEmpty) .ready)
 | [], D, fd, _, _ => by
  simp only [List.map_nil, List.append_nil, List.isEmpty_nil, Bool.not_true, Bool.or_false]
  exact .nil ⟨D, fd, rfl⟩
 | p :: ys, D, fd, hy, hD => by
  simp only [List.length_cons] at hD
  have h1 := collect_yield2 (bb := bb) (i0 := i0) (j0 := j0) (m := m) (of := of) (it := it) (n := n) (f := f) (fx := fx) (fy := p.1) (a := a) (i := i) (x := x) (y := p.2) (D := D) (fd := fd) hx hxl (hy p (by simp)) (by omega) hof hit
  have h2 := collect_its2 (bb := bb) (i0 := i0) (j0 := j0) (m := m) (of := of) (it := it) (n := n) (f := f) (fx := fx) (a := a) (i := i) hx hxl hof hit ys (D ++ [x ++ p.2]) true (fun q hq => hy q (by simp [hq])) (by simp only [List.length_append, List.length_cons, List.length_nil]; omega)
  simp only [List.map_cons, List.isEmpty_cons, Bool.not_false, Bool.or_true]
  rw [List.append_assoc, List.singleton_append, Bool.true_or] at h2
  exact .more ⟨D, fd, rfl⟩ h1 h2

theorem collect_good2 {bb : Rows} {i0 j0 : Int} {m : Nat} {of it : AVal} {n : Int} {f fx : SlF} {a : Rows} {i : Nat} {x : List Val} {D : List (List Val)} {fd : Bool} (hof : of.under 12 = true) (hit : it.under 11 = true) :
  (PS2 bb i0 j0 m (cEnv2 of n f a i it) fx x D fd .ready).length = 12 ∧ (PS2 bb i0 j0 m (cEnv2 of n f a i it) fx x D fd .ready).all (AObj.under 12) = true := by
 refine ⟨rfl, ?_⟩
 have h1 : (AVal.unders 12 (cEnv2 of n f a i it)) = true := mkE_names fun q hq => by
  simp only [List.mem_cons, List.not_mem_nil, or_false] at hq
  rcases hq with rfl | rfl | rfl | rfl | rfl | rfl | rfl | rfl | rfl | rfl | rfl
  all_goals first | exact hof | exact AVal.names_le hit (by omega) | exact sv_pure | rfl
 simp only [PS2, List.all_cons, List.all_nil, outO_under, AObj.under, h1, Bool.and_true, Bool.true_and]
 simp (maxSteps := 2000000) only [go_sem]
 exact v_names_map (fun _ => sv_pure) _

abbrev cE2 (of : AVal) (n : Int) (f : SlF) (a : Rows) (i : Nat) : Env := mkE 50 [(1, of), (2, .int .i64 n), (6, .ptr 4 1 0), (7, .ptr 5 1 0), (8, .ptr 6 1 0), (13, rowsA f a), (14, .int .i64 a.length), (15, .int .i64 i)]
abbrev cS2 (bb : Rows) (i0 j0 : Int) (m : Nat) (D : List (List Val)) : Sto := [onO i0 j0, .cells false [rowsA .lst bb], onO i0 j0, .cells false [.int .i64 (m : Int)], .cells false [.nils], .cells false [.int .i64 0], .cells false [.ref 7 D.length 0 D.length 1], outO D]
structure MInv (a b : Rows) (i0 j0 : Int) (m k : Nat) : Prop where
 le : m ≤ b.length
 lt : ∀ q ∈ b.take m, ∀ p ∈ a.drop k, cmpV (colN q.2 j0) (colN p.2 i0) < 0
def MPart (a b : Rows) (i0 j0 : Int) : Prop := ∀ k (hk : k < a.length) m, MInv a b i0 j0 m k → MInv a b i0 j0 (skipN b j0 (colN a[k].2 i0) m) (k + 1) ∧ partM b j0 (colN a[k].2 i0) m = b.filter (partP a[k].2 i0 j0)

theorem collect_loop2 {f : SlF} {a bb : Rows} {i0 j0 : Int} {Q : Post3} (h : JoinOk a bb i0 j0) (hM : MPart a bb i0 j0) {D1 : List (List Val)} (h4 : D1.length ≤ 4096)
  (fin : ∀ m, Run T Q (.inLoop X20.b0 :: X20.k0) (cE2 mC (-1) f a a.length) (cS2 bb i0 j0 m D1)) : ∀ i, i ≤ a.length → ∀ D m, MInv a bb i0 j0 m i → D ++ joinL (a.drop i) bb i0 j0 (-1) = D1 →
   Run T Q (.inLoop X20.b0 :: X20.k0) (cE2 mC (-1) f a i) (cS2 bb i0 j0 m D) := by
 have ha := h.fa
 have ha1 := ha.1
 refine up_ind (fun D m hm hD => ?_) fun i hi ih D m hm hD => ?_
 ·rw [List.drop_length, joinL, List.flatMap_nil, List.append_nil] at hD
  rw [hD]; exact fin m
 ·rw [List.drop_eq_getElem_cons hi, joinL, List.flatMap_cons, ← List.append_assoc] at hD
  obtain ⟨hm', hpart⟩ := hM i hi m hm
  have ih' := ih _ _ hm' hD
  have hmem := List.getElem_mem hi
  have hlen : D.length + (jrow (fun x => bb.filter (partP x i0 j0)) (-1) a[i].2).length ≤ 4096 := by
   have := congrArg List.length hD
   simp only [List.length_append] at this; omega
  have hx1 : 0 < a[i].2.length := by have := h.ca _ hmem; omega
  have hx2 := h.la _ hmem
  rw [run_round, run_unfold X20.b0.eq_1]
  simp (maxSteps := 2000000) only [go_sem, hi]
  refine merge1_call h.fb h.cb (h.ca _ hmem) hm.le ?_
  rw [hpart]
  simp (maxSteps := 2000000) only [go_sem]
  unfold RangeC
  generalize skipN bb j0 (colN a[i].2 i0) m = m1 at *
  have hof12 : mC.under 12 = true := rfl
  have hit : (AVal.clo (.func i_X4) [] [.fptr [rowsA .lst (bb.filter (partP a[i].2 i0 j0))]]).under 11 = true := by simp (maxSteps := 2000000) only [go_sem]
  have hjr : (jrow (fun x => bb.filter (partP x i0 j0)) (-1) a[i].2) = (bb.filter (partP a[i].2 i0 j0)).map fun p => a[i].2 ++ p.2 := jrow_neg
  rw [hjr] at ih' hlen
  rw [List.length_map] at hlen
  have hys : ∀ q ∈ bb.filter (partP a[i].2 i0 j0), q.2.length ≤ 1000000 := fun q hq => h.lb q (List.mem_filter.1 hq).1
  refine values_iter (o := 11) (L := 12) (G := fun τ => ∃ D fd, τ = PS2 bb i0 j0 m1 (cEnv2 mC (-1) f a i (.clo (.func i_X4) [] [.fptr [rowsA .lst (bb.filter (partP a[i].2 i0 j0))]])) a[i].1 a[i].2 D fd .ready) ?_ (by decide) (h.fb.filter _) (collect_its2 hx1 hx2 hof12 hit (bb.filter (partP a[i].2 i0 j0)) D false hys hlen) ?_
  ·rintro τ ⟨D', fd', rfl⟩
   exact collect_good2 hof12 hit
  unfold RangeK
  have hn0 : ¬ (0 : Int) ≤ -1 := by decide
  have w1 := wrap_succ (show i < 9223372036854775807 by omega)
  simp only [cS2] at ih'
  cases he : (bb.filter (partP a[i].2 i0 j0)).isEmpty
  ·simp (maxSteps := 2000000) only [go_sem, run_unfold X20.c0.eq_1, run_unfold X20.c1.eq_1, run_unfold X20.c2.eq_1, run_unfold X20.c3.eq_1, X20.k0, he, w1]
   exact ⟨v_names_map (fun _ => sv_pure) _, ih'⟩
  ·simp (maxSteps := 2000000) only [go_sem, run_unfold X20.c0.eq_1, run_unfold X20.c1.eq_1, run_unfold X20.c2.eq_1, run_unfold X20.c3.eq_1, X20.k0, he, hn0, w1]
   exact ⟨v_names_map (fun _ => sv_pure) _, ih'⟩
theorem inner_out2 {D : List (List Val)} {b0 b1 b2 b3 c1 c2 : AObj} : innerV (.ptr 4 1 0) [b0, b1, b2, b3, .cells false [.ref 7 D.length 0 D.length 1], c1, c2, outO D] = some [b0, b1, b2, b3, .cells false [rowsA (flO D) (lstR D)], c1, c2, .dead] := by
 have hd := deep_out (n := 62) (o := 7) (σ := [b0, b1, b2, b3, .cells false [.ref 7 D.length 0 D.length 1], c1, c2, outO D]) (D := D) rfl
 unfold innerV
 simp only [List.getElem?_cons_zero, List.getElem?_cons_succ, List.length_cons, List.length_nil, if_true, deepL, snapDepth, hd]
 rfl
theorem collect_spec2 {f : SlF} {a bb : Rows} {i0 j0 : Int} (h : JoinOk a bb i0 j0) (hM : MPart a bb i0 j0) (h4 : (joinL a bb i0 j0 (-1)).length ≤ 4096) {R : Post}
  (hR : ∀ σ, R (.tup [rowsA (flO (joinL a bb i0 j0 (-1))) (lstR (joinL a bb i0 j0 (-1))), .int .i64 0]) σ) : Cw T false i_X20 [rowsA f a, mC, .int .i64 (-1)] [] (mS (onO i0 j0) bb i0 j0 0 []) R := by
 rw [cw_enter T_X20 (by simp), run_unfold X20.main.eq_1]
 have hl := fun Q fin => collect_loop2 (f := f) (Q := Q) h hM (D1 := joinL a bb i0 j0 (-1)) h4 fin 0 (by omega) [] 0 ⟨by omega, fun q hq => by simp at hq⟩ (by simp)
 simp (maxSteps := 2000000) only [go_sem, mS]
 refine hl _ fun m => ?_
 rw [run_round, run_unfold X20.b0.eq_1]
 simp (maxSteps := 2000000) only [go_sem, run_unfold X20.c0.eq_1, run_unfold X20.c1.eq_1, run_unfold X20.c2.eq_1, run_unfold X20.c3.eq_1, X20.k0, Int.lt_irrefl, inner_out2]
 exact hR _
end Go.Abs
/- Walks of chapter 40: Merge; the order of sorted rows. -/
set_option linter.unusedSimpArgs false
set_option linter.unusedVariables false
set_option maxRecDepth 100000
set_option maxHeartbeats 4000000
namespace Go.Abs
open Go
attribute [local go_sem_proc] Nat.reduceLT Nat.reduceEqDiff Nat.reduceLeDiff Nat.reduceAdd Nat.reduceSub Nat.reduceMul Int.reduceLT Int.reduceLE Int.reduceEq Int.reduceNeg
attribute [local go_sem_proc ↓] reduceIte

theorem cmpV_lt_le {a b c : Val} (h1 : cmpV a b < 0) (h2 : cmpV b c ≤ 0) : cmpV a c < 0 := by
 have h := cmpV_trans (show cmpV a b ≤ 0 by omega) h2
 rcases Int.lt_or_eq_of_le h.1 with h3 | h3
 ·exact h3
 ·have := (h.2 h3).1; omega
theorem srt_le {b : Rows} {j : Int} (h : srt b j = true) : ∀ {p q : Nat}, p ≤ q → q < b.length → cmpV (colAt b j p) (colAt b j q) ≤ 0 := by
 intro p q hpq
 obtain ⟨d, rfl⟩ := Nat.exists_eq_add_of_le hpq
 clear hpq
 induction d with
 | zero => intro _; rw [Nat.add_zero, cmpV_self]; omega
 | succ d ih =>
  intro hq
  have h1 := ih (by omega)
  have h2 := List.all_eq_true.1 h (p + d) (by rw [List.mem_range]; omega)
  rw [decide_eq_true_eq, Nat.zero_add] at h2
  exact (cmpV_trans h1 h2).1
theorem mem_at {b : Rows} {j : Int} {q : SlF × List Val} {m : Nat} (h : q ∈ b.take m) : ∃ k, k < m ∧ k < b.length ∧ b[k]? = some q := by
 obtain ⟨k, hk, e⟩ := List.mem_iff_getElem.1 h
 rw [List.length_take] at hk
 rw [List.getElem_take] at e
 exact ⟨k, by omega, by omega, by rw [List.getElem?_eq_getElem (by omega), e]⟩
theorem colAt_some {b : Rows} {j : Int} {q : SlF × List Val} {k : Nat} (h : b[k]? = some q) : colAt b j k = colN q.2 j := by
 unfold colAt; rw [List.getD_eq_getElem?_getD, h]; rfl
theorem takeWhile_filter {α : Type} {p : α → Bool} : ∀ {l : List α}, (∀ k, ∀ x ∈ l.take k, ∀ y, l[k]? = some y → p x = false → p y = false) → l.takeWhile p = l.filter p
 | [], _ => rfl
 | x :: l, h => by
  rw [List.takeWhile_cons, List.filter_cons]
  cases hx : p x
  ·simp only [Bool.false_eq_true, if_false]
   symm
   rw [List.filter_eq_nil_iff]
   intro y hy
   obtain ⟨k, hk, e⟩ := List.mem_iff_getElem.1 hy
   have := h (k + 1) x (by simp) y (by rw [List.getElem?_cons_succ, List.getElem?_eq_getElem hk, e]) hx
   simp [this]
  ·simp only [if_true]
   congr 1
   exact takeWhile_filter fun k z hz y hy => h (k + 1) z (by rw [List.take_succ_cons]; exact List.mem_cons_of_mem _ hz) y (by rw [List.getElem?_cons_succ]; exact hy)
theorem drop_takeWhile {α : Type} {p : α → Bool} : ∀ {l : List α} {x : α} {r : List α}, l.drop (l.takeWhile p).length = x :: r → p x = false
 | [], x, r, h => by simp at h
 | y :: l, x, r, h => by
  rw [List.takeWhile_cons] at h
  cases hy : p y
  ·rw [hy] at h
   simp only [Bool.false_eq_true, if_false, List.length_nil, List.drop_zero] at h
   injection h with h1 h2
   rw [← h1]; exact hy
  ·rw [hy] at h
   simp only [if_true, List.length_cons, List.drop_succ_cons] at h
   exact drop_takeWhile h
theorem take_takeWhile {α : Type} {p : α → Bool} : ∀ (l : List α), l.take (l.takeWhile p).length = l.takeWhile p
 | [] => rfl
 | y :: l => by
  rw [List.takeWhile_cons]
  cases hy : p y
  ·simp
  ·simp only [if_true, List.length_cons, List.take_succ_cons, take_takeWhile l]

theorem mpart {a b : Rows} {i j : Int} (ha : srt a i = true) (hb : srt b j = true) : MPart a b i j := by
 intro k hk m hm
 generalize hv : colN a[k].2 i = v
 have hrest : ∀ p ∈ a.drop (k + 1), cmpV v (colN p.2 i) ≤ 0 := by
  intro p hp
  obtain ⟨t, ht, e⟩ := List.mem_iff_getElem.1 hp
  rw [List.length_drop] at ht
  rw [List.getElem_drop] at e
  have h1 := srt_le ha (p := k) (q := k + 1 + t) (by omega) (by omega)
  rw [colAt_get hk, hv, colAt_get (by omega), e] at h1
  exact h1
 have hsk := skip_le (j := j) (v := v) hm.le
 have hless : ∀ q ∈ b.take (skipN b j v m), cmpV (colN q.2 j) v < 0 := by
  intro q hq
  have e : b.take (skipN b j v m) = b.take m ++ (b.drop m).takeWhile (lessP j v) := by
   rw [skipN, List.take_add, take_takeWhile]
  rw [e] at hq
  rcases List.mem_append.1 hq with hq | hq
  ·have := hm.lt q hq _ (by rw [List.drop_eq_getElem_cons hk]; exact List.mem_cons_self)
   rwa [hv] at this
  ·have := List.all_eq_true.1 (List.all_takeWhile (l := b.drop m) (p := lessP j v)) q hq
   exact of_decide_eq_true this
 refine ⟨⟨hsk.2, fun q hq p hp => cmpV_lt_le (hless q hq) (hrest p hp)⟩, ?_⟩
 have hge : ∀ t, skipN b j v m ≤ t → t < b.length → cmpV v (colAt b j t) ≤ 0 := by
  intro t h1 h2
  have h3 : cmpV v (colAt b j (skipN b j v m)) ≤ 0 := by
   have hlt : skipN b j v m < b.length := by omega
   have hd := List.drop_eq_getElem_cons hlt
   have e : b.drop (skipN b j v m) = (b.drop m).drop ((b.drop m).takeWhile (lessP j v)).length := by rw [List.drop_drop, skipN]
   rw [e] at hd
   have := drop_takeWhile hd
   have := of_decide_eq_false this
   rw [colAt_get hlt]
   have an := cmpV_anti v (colN b[skipN b j v m].2 j)
   omega
  exact (cmpV_trans h3 (srt_le hb h1 h2)).1
 have hpp : partP a[k].2 i j = sameP j v := by
  funext q
  rw [partP, sameP, hv]
  congr 1
  by_cases h : v = colN q.2 j
  ·simp [h]
  ·have : ¬ colN q.2 j = v := fun e => h e.symm
   simp [h, this]
 have e1 : partM b j v m = (b.drop (skipN b j v m)).takeWhile (sameP j v) := by
  rw [partM, sameN, List.take_add, List.drop_append_of_le_length (by rw [List.length_take]; omega), take_takeWhile]
  rw [List.drop_eq_nil_of_le (by rw [List.length_take]; omega)]
  rfl
 rw [e1, hpp]
 have e2 : b.filter (sameP j v) = (b.drop (skipN b j v m)).filter (sameP j v) := by
  conv => lhs; rw [← List.take_append_drop (skipN b j v m) b]
  rw [List.filter_append]
  have : (b.take (skipN b j v m)).filter (sameP j v) = [] := by
   rw [List.filter_eq_nil_iff]
   intro q hq
   have := hless q hq
   have hne : ¬ colN q.2 j = v := fun e => by rw [e, cmpV_self] at this; omega
   simp [sameP, hne]
  rw [this, List.nil_append]
 rw [e2]
 refine takeWhile_filter fun t x hx y hy hp => ?_
 obtain ⟨s, hs1, hs2, hs3⟩ := mem_at (j := j) hx
 rw [List.length_drop] at hs2
 have hx' : colN x.2 j = colAt b j (skipN b j v m + s) := by rw [colAt_some (q := x) (by rw [← List.getElem?_drop]; exact hs3)]
 have hty : skipN b j v m + t < b.length := by
  have := (List.getElem?_eq_some_iff.1 hy).1
  rw [List.length_drop] at this; omega
 have hy' : colN y.2 j = colAt b j (skipN b j v m + t) := by rw [colAt_some (q := y) (by rw [← List.getElem?_drop]; exact hy)]
 by_cases h0 : v.k = 0
 ·simp [sameP, h0]
 ·have hxv : ¬ colN x.2 j = v := by
   intro e
   simp [sameP, h0, e] at hp
  have h1 := hge (skipN b j v m + s) (by omega) (by omega)
  have h2 := srt_le hb (p := skipN b j v m + s) (q := skipN b j v m + t) (by omega) hty
  rw [← hx'] at h1 h2
  rw [← hy'] at h2
  have h3 : cmpV v (colN y.2 j) ≠ 0 := by
   intro e
   have h4 := (cmpV_trans h1 h2).2 e
   exact hxv (cmpV_zero.1 h4.1).symm
  have hne : ¬ colN y.2 j = v := fun e => h3 (by rw [e, cmpV_self])
  simp [sameP, hne]

theorem X27_spec {f : SlF} {a b : Rows} {i j : Int} (h : JoinOk a b i j) (h4 : (joinL a b i j (-1)).length ≤ 4096) {lv : List Nat} {σ : Sto} {R : Post} : Cw T true i_X27 [rowsA f a, rowsA .lst b, onA i j] lv σ R ↔ R (if (srt a i && srt b j) = true then .tup [rowsA (flO (joinL a b i j (-1))) (lstR (joinL a b i j (-1))), .int .i64 0] else .tup [.nils, .int .i64 1]) σ := by
 refine cw_intro T_X27 (by simp only [go_sem]) (by simp) ?_; rw [run_unfold X27.main.eq_1]
 have c1 := fun {Q k os d e σ} => @X0_call f a i h.fa h.ca Q k os d e σ
 have c2 := fun {Q k os d e σ} => @X0_call .lst b j h.fb h.cb Q k os d e σ
 cases ha : srt a i
 ·simp (maxSteps := 2000000) only [go_sem, X51_call h.fa h.fb, fit_all h.hi h.ca, fit_all h.hj h.cb, Bool.true_and, Bool.false_and, X16_call, c1, ha]
  done
 ·cases hb : srt b j
  ·simp (maxSteps := 2000000) only [go_sem, X51_call h.fa h.fb, fit_all h.hi h.ca, fit_all h.hj h.cb, Bool.true_and, Bool.and_false, X16_call, c1, c2, ha, hb]
   done
  ·have hcol := fun R hR => collect_spec2 (f := f) (R := R) h (mpart ha hb) h4 hR
   simp (maxSteps := 2000000) only [go_sem, X51_call h.fa h.fb, fit_all h.hi h.ca, fit_all h.hj h.cb, Bool.true_and, Bool.and_true, X16_call, c1, c2, ha, hb]
   refine merge_call.2 ?_
   simp (maxSteps := 2000000) only [go_sem]
   refine hcol _ fun σ => ?_
   simp (maxSteps := 2000000) only [go_sem]
@[go_sem] theorem X27_call {f : SlF} {a b : Rows} {i j : Int} (h : JoinOk a b i j) (h4 : (joinL a b i j (-1)).length ≤ 4096) {Q : Post3} {k : List Item} {os : List AOper} {d : Option Nat} {e : Env} {σ : Sto} : CallK T Q k os d e σ true i_X27 [rowsA f a, rowsA .lst b, onA i j] ↔ Run T Q (.ops os :: k) (put e d (if (srt a i && srt b j) = true then .tup [rowsA (flO (joinL a b i j (-1))) (lstR (joinL a b i j (-1))), .int .i64 0] else .tup [.nils, .int .i64 1])) σ := X27_spec h h4

theorem X30_spec {f : SlF} {a b : Rows} {i j : Int} (h : JoinOk a b i j) (h4 : (joinL a b i j (-1)).length ≤ 4096) {lv : List Nat} {σ : Sto} {R : Post} : Cw T true i_X30 [rowsA f a, rowsA .lst b, onA i j] lv σ R ↔ R (if (srt a i && srt b j) = true then .agg [rowsA (flO (joinL a b i j (-1))) (lstR (joinL a b i j (-1))), .int .i64 0] else .agg [.nils, .int .i64 1]) σ := by
 refine cw_intro T_X30 (by simp only [go_sem]) (by simp) ?_; rw [run_unfold X30.main.eq_1]
 cases hs : (srt a i && srt b j)
 ·simp (maxSteps := 2000000) only [go_sem, X27_call h h4, hs]
  done
 ·simp (maxSteps := 2000000) only [go_sem, X27_call h h4, hs]
  done
@[go_sem] theorem X30_call {f : SlF} {a b : Rows} {i j : Int} (h : JoinOk a b i j) (h4 : (joinL a b i j (-1)).length ≤ 4096) {Q : Post3} {k : List Item} {os : List AOper} {d : Option Nat} {e : Env} {σ : Sto} : CallK T Q k os d e σ true i_X30 [rowsA f a, rowsA .lst b, onA i j] ↔ Run T Q (.ops os :: k) (put e d (if (srt a i && srt b j) = true then .agg [rowsA (flO (joinL a b i j (-1))) (lstR (joinL a b i j (-1))), .int .i64 0] else .agg [.nils, .int .i64 1])) σ := X30_spec h h4

end Go.Abs
/- Walks of chapter 40: JoinEquivalent. -/
set_option linter.unusedSimpArgs false
set_option linter.unusedVariables false
set_option maxRecDepth 100000
set_option maxHeartbeats 8000000
namespace Go.Abs
open Go
attribute [local go_sem_proc] Nat.reduceLT Nat.reduceEqDiff Nat.reduceLeDiff Nat.reduceAdd Nat.reduceSub Nat.reduceMul Int.reduceLT Int.reduceLE Int.reduceEq Int.reduceNeg
attribute [local go_sem_proc ↓] reduceIte

abbrev SrtP (j : Int) (D : Rows) : Prop := D.Pairwise fun p q => cmpV (colN p.2 j) (colN q.2 j) ≤ 0
theorem srt_of {D : Rows} {j : Int} (h : SrtP j D) : srt D j = true := by
 refine List.all_eq_true.2 fun t ht => decide_eq_true ?_
 rw [List.mem_range] at ht
 rw [Nat.zero_add, colAt_get (by omega), colAt_get (by omega)]
 exact List.pairwise_iff_getElem.1 h t (t + 1) (by omega) (by omega) (by omega)
theorem atN_gt {D : Rows} {v : Val} {j : Int} : ∀ n t, atN D v j n ≤ t → t < n → cmpV v (colAt D j t) < 0
 | 0, t, _, h => by omega
 | n + 1, t, h1, h2 => by
  unfold atN at h1
  split at h1
  ·rename_i h
   by_cases e : t = n
   ·subst e; exact h
   ·exact atN_gt n t h1 (by omega)
  ·omega
theorem atN_ge {D : Rows} {v : Val} {j : Int} : ∀ n, 0 < atN D v j n → ¬ cmpV v (colAt D j (atN D v j n - 1)) < 0
 | 0, h => by simp [atN] at h
 | n + 1, h => by
  unfold atN at h ⊢
  split
  ·rename_i hc
   rw [if_pos hc] at h
   exact atN_ge n h
  ·rename_i hc
   rw [Nat.add_sub_cancel]; exact hc
theorem insR_srt {D : Rows} {p : SlF × List Val} {j : Int} (h : SrtP j D) : SrtP j (insR D p j) := by
 have hK := atN_le (D := D) (v := colN p.2 j) (j := j) D.length
 have h1 := atN_gt (D := D) (v := colN p.2 j) (j := j) D.length
 have h2 := atN_ge (D := D) (v := colN p.2 j) (j := j) D.length
 unfold insR SrtP
 generalize atN D (colN p.2 j) j D.length = K at *
 have hg := List.pairwise_iff_getElem.1 h
 have hX : (D.take K).Pairwise fun p q => cmpV (colN p.2 j) (colN q.2 j) ≤ 0 := h.sublist (List.take_sublist _ _)
 have hY : (D.drop K).Pairwise fun p q => cmpV (colN p.2 j) (colN q.2 j) ≤ 0 := h.sublist (List.drop_sublist _ _)
 have hXY : ∀ x ∈ D.take K, ∀ y ∈ D.drop K, cmpV (colN x.2 j) (colN y.2 j) ≤ 0 := by
  rw [SrtP, ← List.take_append_drop K D, List.pairwise_append] at h
  exact h.2.2
 have hp2 : ∀ y ∈ D.drop K, cmpV (colN p.2 j) (colN y.2 j) ≤ 0 := by
  intro y hy
  obtain ⟨t, ht, e⟩ := List.mem_iff_getElem.1 hy
  rw [List.length_drop] at ht
  rw [List.getElem_drop] at e
  have := h1 (K + t) (by omega) (by omega)
  rw [colAt_get (by omega), e] at this
  omega
 have hp1 : ∀ x ∈ D.take K, cmpV (colN x.2 j) (colN p.2 j) ≤ 0 := by
  intro x hx
  obtain ⟨s, hs1, hs2, hs3⟩ := mem_at (j := j) hx
  have hk1 : ¬ cmpV (colN p.2 j) (colAt D j (K - 1)) < 0 := h2 (by omega)
  rw [colAt_get (by omega)] at hk1
  have an := cmpV_anti (colN p.2 j) (colN (D[K - 1]'(by omega)).2 j)
  have h3 : cmpV (colN (D[K - 1]'(by omega)).2 j) (colN p.2 j) ≤ 0 := by omega
  have hxs : D[s]'hs2 = x := by rw [List.getElem?_eq_getElem hs2] at hs3; injection hs3
  by_cases e : s = K - 1
  ·subst e; rw [← hxs]; exact h3
  ·have := hg s (K - 1) hs2 (by omega) (by omega)
   rw [hxs] at this
   exact (cmpV_trans this h3).1
 rw [List.pairwise_append, List.pairwise_cons]
 refine ⟨hX, ⟨hp2, hY⟩, fun x hx y hy => ?_⟩
 rcases List.mem_cons.1 hy with rfl | hy
 ·exact hp1 x hx
 ·exact hXY x hx y hy
theorem srtL_srt {j : Int} : ∀ {l D : Rows}, SrtP j D → SrtP j (srtL l j D)
 | [], D, h => h
 | p :: l, D, h => srtL_srt (l := l) (insR_srt (p := p) h)
theorem insR_len {D : Rows} {p : SlF × List Val} {j : Int} : (insR D p j).length = D.length + 1 := by
 have := atN_le (D := D) (v := colN p.2 j) (j := j) D.length
 simp only [insR, List.length_append, List.length_cons, List.length_take, List.length_drop]; omega
theorem srtL_len {j : Int} : ∀ {l D : Rows}, (srtL l j D).length = l.length + D.length
 | [], D => by simp [srtL]
 | p :: l, D => by
  have := srtL_len (j := j) (l := l) (D := insR D p j)
  rw [insR_len] at this
  simp only [List.length_cons]
  show (srtL l j (insR D p j)).length = _
  omega
theorem srtL_mem {j : Int} : ∀ {l D : Rows} {q : SlF × List Val}, q ∈ srtL l j D → q ∈ l ∨ q ∈ D
 | [], D, q, h => .inr h
 | p :: l, D, q, h => by
  rcases srtL_mem (l := l) (D := insR D p j) h with h | h
  ·exact .inl (List.mem_cons_of_mem _ h)
  ·rcases insR_mem h with rfl | h
   ·exact .inl List.mem_cons_self
   ·exact .inr h
theorem Wide.srtL {a : Rows} {m : Nat} (h : Wide a m) (j : Int) : Wide (srtL a j []) m := by
 have hm : ∀ p ∈ Go.Abs.srtL a j [], p ∈ a := fun p hp => by
  rcases srtL_mem hp with h | h
  ·exact h
  ·simp at h
 exact ⟨by rw [srtL_len]; exact h.n, fun p hp => h.w p (hm p hp), fun p hp => h.s p (hm p hp)⟩

theorem X50_spec {f g : SlF} {a b : Rows} {ea eb : Int} (ha : RowsFit a) (hb : RowsFit b) {lv : List Nat} {σ : Sto} {R : Post} : Cw T true i_X50 [.agg [rowsA f a, .int .i64 ea], .agg [rowsA g b, .int .i64 eb]] lv σ R ↔ R (.bool (decide (ea = eb) && decide (a.map Prod.snd = b.map Prod.snd))) σ := by
 refine cw_intro T_X50 (by simp only [go_sem]) (by simp) ?_; rw [run_unfold X50.main.eq_1]
 by_cases h : ea = eb
 ·simp (maxSteps := 2000000) only [go_sem, X15_call ha hb, h, decide_true, Bool.true_and]
 ·simp (maxSteps := 2000000) only [go_sem, X15_call ha hb, h, decide_false, Bool.false_and]
@[go_sem] theorem X50_call {f g : SlF} {a b : Rows} {ea eb : Int} (ha : RowsFit a) (hb : RowsFit b) {Q : Post3} {k : List Item} {os : List AOper} {d : Option Nat} {e : Env} {σ : Sto} : CallK T Q k os d e σ true i_X50 [.agg [rowsA f a, .int .i64 ea], .agg [rowsA g b, .int .i64 eb]] ↔ Run T Q (.ops os :: k) (put e d (.bool (decide (ea = eb) && decide (a.map Prod.snd = b.map Prod.snd)))) σ := X50_spec ha hb


theorem X6_spec {z : Cas} (h : z.Ok) {lv : List Nat} {σ : Sto} {R : Post} : Cw T true i_X6 [z.v] lv σ R ↔ R (.bool true) σ := by
 refine cw_intro T_X6 (by simp only [go_sem]) (by simp) ?_; rw [run_unfold X6.main.eq_1]
 have h2 := z.two
 have hmade := fun {Q : Post3} {k : List Item} {os : List AOper} {d : Option Nat} {e : Env} {σ : Sto} => X49_call (z := z) h (Q := Q) (k := k) (os := os) (d := d) (e := e) (σ := σ)
 generalize z.A = a at h2 hmade
 generalize z.B = b at h2 hmade
 generalize z.i = i at h2 hmade
 generalize z.j = j at h2 hmade
 have h3 : Two (srtL a i []) (srtL b j []) z.m z.n i j := ⟨h2.ha.srtL i, h2.hb.srtL j, h2.hm, h2.hn, h2.i0, h2.j0, h2.im, h2.jn⟩
 have hs : (srt (srtL a i []) i && srt (srtL b j []) j) = true := by rw [srt_of (srtL_srt List.Pairwise.nil), srt_of (srtL_srt List.Pairwise.nil)]; rfl
 have c1 := fun {Q k os d e σ} => @X43_call .lst a i h2.ok.fa h2.ok.ca Q k os d e σ
 have c2 := fun {Q k os d e σ} => @X43_call .lst b j h2.ok.fb h2.ok.cb Q k os d e σ
 have c3 := fun {Q k os d e σ} => @X32_call .lst a i h2.ok.fa h2.ok.ca Q k os d e σ
 have c4 := fun {Q k os d e σ} => @X32_call .lst b j h2.ok.fb h2.ok.cb Q k os d e σ
 have c5 := fun {Q k os d e σ} => @X30_call .lst a b i j h2.ok h2.len4 Q k os d e σ
 have c6 := fun {Q k os d e σ} => @X30_call .lst (srtL a i []) (srtL b j []) i j h3.ok h3.len4 Q k os d e σ
 have f1 := h2.fitJ
 have f2 := h3.fitJ
 rw [if_pos hs] at c6
 have s1 := fun {Q k os d e σ} => @X50_call (flO (joinL a b i j (-1))) (flO (joinL a b i j (-1))) (lstR (joinL a b i j (-1))) (lstR (joinL a b i j (-1))) 0 0 f1 f1 Q k os d e σ
 have s2 := fun {Q k os d e σ} => @X50_call (flO (joinL (srtL a i []) (srtL b j []) i j (-1))) (flO (joinL (srtL a i []) (srtL b j []) i j (-1))) (lstR (joinL (srtL a i []) (srtL b j []) i j (-1))) (lstR (joinL (srtL a i []) (srtL b j []) i j (-1))) 0 0 f2 f2 Q k os d e σ
 rw [decide_eq_true rfl, decide_eq_true rfl, Bool.true_and] at s1 s2
 cases ha : srt a i
 ·have c5' := fun {Q k os d e σ} => @c5 Q k os d e σ
  rw [ha, Bool.false_and, if_neg (by decide)] at c5'
  simp (maxSteps := 2000000) only [go_sem, run_unfold X6.c0.eq_1, hmade, c1, c2, c3, c4, c5', c6, s1, s2, ha, X29_call h2.ok h2.len4, X29_call h3.ok h3.len4, X44_call h2.ok h2.len4, X44_call h3.ok h3.len4]
 ·cases hb : srt b j
  ·have c5' := fun {Q k os d e σ} => @c5 Q k os d e σ
   rw [ha, hb, Bool.and_false, if_neg (by decide)] at c5'
   simp (maxSteps := 2000000) only [go_sem, run_unfold X6.c0.eq_1, hmade, c1, c2, c3, c4, c5', c6, s1, s2, ha, hb, X29_call h2.ok h2.len4, X29_call h3.ok h3.len4, X44_call h2.ok h2.len4, X44_call h3.ok h3.len4]
  ·have c5' := fun {Q k os d e σ} => @c5 Q k os d e σ
   rw [ha, hb, Bool.and_true, if_pos rfl] at c5'
   simp (maxSteps := 2000000) only [go_sem, run_unfold X6.c0.eq_1, hmade, c1, c2, c3, c4, c5', c6, s1, s2, ha, hb, X29_call h2.ok h2.len4, X29_call h3.ok h3.len4, X44_call h2.ok h2.len4, X44_call h3.ok h3.len4]
@[go_sem] theorem X6_call {z : Cas} (h : z.Ok) {Q : Post3} {k : List Item} {os : List AOper} {d : Option Nat} {e : Env} {σ : Sto} : CallK T Q k os d e σ true i_X6 [z.v] ↔ Run T Q (.ops os :: k) (put e d (.bool true)) σ := X6_spec h

end Go.Abs
