/- Parts of the proof: C42A, C42B, C42C, C42D, C42E, C42G, C42H, C42I, C42J, C42K, C42L. -/
import Derived.Test.YtpclhokdlhcjkaaJP42C
import Derived.Laws.Strings
set_option linter.all false
/- Walks of chapter 42: values and how they are compared. -/
set_option linter.unusedSimpArgs false
set_option linter.unusedVariables false
namespace Go.Abs
open Go
attribute [local go_sem_proc] Nat.reduceLT Nat.reduceEqDiff Nat.reduceLeDiff Nat.reduceAdd Nat.reduceSub Nat.reduceMul Int.reduceLT Int.reduceLE Int.reduceEq Int.reduceNeg
attribute [local go_sem_proc ↓] reduceIte

attribute [go_sem] chunk List.headD_cons
abbrev int (n : Int) : AVal := .int .i64 n
abbrev ints (f : SlF) (c : List Int) : AVal := sv 1 f (c.map fun n => .int .i64 n)
abbrev Fits {α : Type} (l : List α) : Prop := l.length < 9223372036854775807

structure Val where
 k : Int
 i : Int
 s : ByteArray
 deriving DecidableEq
abbrev vA (v : Val) : AVal := .agg [.int .i64 v.k, .int .i64 v.i, .str v.s]
abbrev rowA (f : SlF) (r : List Val) : AVal := sv 3 f (r.map fun v => .agg [.int .i64 v.k, .int .i64 v.i, .str v.s])
abbrev rowsA (f : SlF) (l : List (SlF × List Val)) : AVal := sv 1 f (l.map fun p => sv 3 p.1 (p.2.map fun v => .agg [.int .i64 v.k, .int .i64 v.i, .str v.s]))

def sgn (a b : Int) : Int := if a < b then -1 else if b < a then 1 else 0
def cmpL : List UInt8 → List UInt8 → Int
 | [], [] => 0
 | [], _ :: _ => -1
 | _ :: _, [] => 1
 | a :: x, b :: y => if a = b then cmpL x y else if a < b then -1 else 1
def cmpS (x y : ByteArray) : Int := cmpL x.toList y.toList

theorem cmpL_less : ∀ (x y : List UInt8), Op.bytesLess x y = decide (cmpL x y < 0)
 | [], [] => by decide
 | [], b :: y => by simp [Op.bytesLess, cmpL]
 | a :: x, [] => by simp [Op.bytesLess, cmpL]
 | a :: x, b :: y => by
  simp only [Op.bytesLess, cmpL]
  by_cases h : a = b
  ·subst h
   simp [cmpL_less x y, UInt8.lt_irrefl]
  ·by_cases hl : a < b
   ·simp [h, hl]
   ·simp [h, hl]
theorem cmpL_eq : ∀ (x y : List UInt8), (x == y) = decide (cmpL x y = 0)
 | [], [] => by decide
 | [], b :: y => by simp [cmpL]
 | a :: x, [] => by simp [cmpL]
 | a :: x, b :: y => by
  simp only [cmpL]
  by_cases h : a = b
  ·subst h
   have := cmpL_eq x y
   simp only [List.cons_beq_cons, beq_self_eq_true, Bool.true_and, this, if_true]
  ·by_cases hl : a < b
   ·simp [h, hl]
   ·simp [h, hl]
theorem cmpL_val : ∀ (x y : List UInt8), cmpL x y = if cmpL x y < 0 then -1 else if cmpL x y = 0 then 0 else 1
 | [], [] => by decide
 | [], b :: y => by simp [cmpL]
 | a :: x, [] => by simp [cmpL]
 | a :: x, b :: y => by
  simp only [cmpL]
  by_cases h : a = b
  ·simp only [h, if_true]; exact cmpL_val x y
  ·by_cases hl : a < b
   ·simp [h, hl]
   ·simp [h, hl]

theorem X61_spec {a b : Int} {lv : List Nat} {σ : Sto} {R : Post} : Cw T true i_X61 [.int .i64 a, .int .i64 b] lv σ R ↔ R (.int .i64 (sgn a b)) σ := by
 refine cw_intro T_X61 (by simp only [go_sem]) (by simp) ?_; rw [run_unfold X61.main.eq_1]
 unfold sgn
 by_cases h : a < b
 ·simp (maxSteps := 2000000) only [go_sem, h]
 ·by_cases h1 : b < a
  ·simp (maxSteps := 2000000) only [go_sem, h, h1]
  ·simp (maxSteps := 2000000) only [go_sem, h, h1]
@[go_sem] theorem X61_call {a b : Int} {Q : Post3} {k : List Item} {os : List AOper} {d : Option Nat} {e : Env} {σ : Sto} : CallK T Q k os d e σ true i_X61 [.int .i64 a, .int .i64 b] ↔ Run T Q (.ops os :: k) (put e d (.int .i64 (sgn a b))) σ := X61_spec


theorem X36_spec {a : Int} {lv : List Nat} {σ : Sto} {R : Post} : Cw T true i_X36 [.int .i64 a] lv σ R ↔ R (.bool false) σ := by
 refine cw_intro T_X36 (by simp only [go_sem]) (by simp) ?_; rw [run_unfold X36.main.eq_1]
 simp (maxSteps := 2000000) only [go_sem]
@[go_sem] theorem X36_call {a : Int} {Q : Post3} {k : List Item} {os : List AOper} {d : Option Nat} {e : Env} {σ : Sto} : CallK T Q k os d e σ true i_X36 [.int .i64 a] ↔ Run T Q (.ops os :: k) (put e d (.bool false)) σ := X36_spec


theorem X29_spec {a b : Int} {lv : List Nat} {σ : Sto} {R : Post} : Cw T true i_X29 [.int .i64 a, .int .i64 b] lv σ R ↔ R (.int .i64 (sgn a b)) σ := by
 refine cw_intro T_X29 (by simp only [go_sem]) (by simp) ?_; rw [run_unfold X29.main.eq_1]
 unfold sgn
 by_cases h : a < b
 ·simp (maxSteps := 2000000) only [go_sem, h]
 ·by_cases h1 : b < a
  ·simp (maxSteps := 2000000) only [go_sem, h, h1]
  ·simp (maxSteps := 2000000) only [go_sem, h, h1]
@[go_sem] theorem X29_call {a b : Int} {Q : Post3} {k : List Item} {os : List AOper} {d : Option Nat} {e : Env} {σ : Sto} : CallK T Q k os d e σ true i_X29 [.int .i64 a, .int .i64 b] ↔ Run T Q (.ops os :: k) (put e d (.int .i64 (sgn a b))) σ := X29_spec


@[go_sem] theorem binV_sneq {a b : ByteArray} {σ : Sto} : binV .neq (.str a) (.str b) σ = some (.bool (!decide (cmpS a b = 0)), σ) := by
 simp only [binV, binA, binStr, cmpL_eq, cmpS]; rfl
@[go_sem] theorem binV_slss {a b : ByteArray} {σ : Sto} : binV .lss (.str a) (.str b) σ = some (.bool (decide (cmpS a b < 0)), σ) := by
 simp only [binV, binA, binStr, cmpL_less, cmpS]; rfl
@[go_sem] theorem binV_sgtr {a b : ByteArray} {σ : Sto} : binV .gtr (.str a) (.str b) σ = some (.bool (decide (0 < cmpS a b)), σ) := by
 have : decide (0 < cmpS a b) = !(decide (cmpL a.toList b.toList < 0) || decide (cmpL a.toList b.toList = 0)) := by
  unfold cmpS
  generalize cmpL a.toList b.toList = c
  by_cases h : c < 0
  ·simp [h]; omega
  ·by_cases h1 : c = 0
   ·simp [h1]
   ·simp [h, h1]; omega
 rw [this]
 simp only [binV, binA, binStr, cmpL_less, cmpL_eq]; rfl

theorem cmpS_self (a : ByteArray) : cmpS a a = 0 := by
 have := cmpL_eq a.toList a.toList
 unfold cmpS
 simpa using this

theorem X27_spec {a : ByteArray} {lv : List Nat} {σ : Sto} {R : Post} : Cw T true i_X27 [.str a] lv σ R ↔ R (.bool false) σ := by
 refine cw_intro T_X27 (by simp only [go_sem]) (by simp) ?_; rw [run_unfold X27.main.eq_1]
 simp (maxSteps := 2000000) only [go_sem, cmpS_self]
@[go_sem] theorem X27_call {a : ByteArray} {Q : Post3} {k : List Item} {os : List AOper} {d : Option Nat} {e : Env} {σ : Sto} : CallK T Q k os d e σ true i_X27 [.str a] ↔ Run T Q (.ops os :: k) (put e d (.bool false)) σ := X27_spec


theorem X21_spec {a b : ByteArray} {lv : List Nat} {σ : Sto} {R : Post} : Cw T true i_X21 [.str a, .str b] lv σ R ↔ R (.int .i64 (cmpS a b)) σ := by
 refine cw_intro T_X21 (by simp only [go_sem]) (by simp) ?_; rw [run_unfold X21.main.eq_1]
 have hv := cmpL_val a.toList b.toList
 change cmpS a b = if cmpS a b < 0 then -1 else if cmpS a b = 0 then 0 else 1 at hv
 by_cases h : cmpS a b < 0
 ·rw [if_pos h] at hv
  simp (maxSteps := 2000000) only [go_sem, h]
  simp (maxSteps := 2000000) only [go_sem, hv]
 ·by_cases h1 : cmpS a b = 0
  ·simp (maxSteps := 2000000) only [go_sem, h1, Int.lt_irrefl]
  ·have h2 : 0 < cmpS a b := by omega
   rw [if_neg h, if_neg h1] at hv
   simp (maxSteps := 2000000) only [go_sem, h, h2]
   simp (maxSteps := 2000000) only [go_sem, hv]
@[go_sem] theorem X21_call {a b : ByteArray} {Q : Post3} {k : List Item} {os : List AOper} {d : Option Nat} {e : Env} {σ : Sto} : CallK T Q k os d e σ true i_X21 [.str a, .str b] ↔ Run T Q (.ops os :: k) (put e d (.int .i64 (cmpS a b))) σ := X21_spec


theorem toList_get {a : ByteArray} {i : Nat} (h : i < a.size) : a.toList[i]'(by rw [ByteArray.toList_eq]; simpa using h) = a[i] := by
 simp only [ByteArray.toList_eq]; rfl
theorem toList_len {a : ByteArray} : a.toList.length = a.size := by rw [ByteArray.toList_eq]; simp
theorem idxSV_nat {a : ByteArray} {i : Nat} {kd : IntKind} {σ : Sto} (h : i < a.size) : idxSV (.str a) (.int kd (i : Int)) σ = some (.int .u8 (a[i].toNat : Int), σ) := by
 simp only [idxSV, natOf_nat]
 rw [getElem?_pos a i h]
 rfl

theorem u8_lt {a b : UInt8} : ((a.toNat : Int) < (b.toNat : Int)) ↔ a < b := by rw [UInt8.lt_iff_toNat_lt]; omega
theorem u8_eq {a b : UInt8} : ((a.toNat : Int) = (b.toNat : Int)) ↔ a = b := by rw [← UInt8.toNat_inj]; omega
theorem u8_i64 (a : UInt8) : IntKind.i64.wrap (a.toNat : Int) = (a.toNat : Int) := by
 have := a.toNat_lt
 exact wrap_i64 (by omega) (by omega)

theorem X48_loop {a b : ByteArray} (ha : a.size < 9223372036854775807) (hb : b.size < 9223372036854775807) : ∀ (n i : Nat), a.size = i + n → i ≤ b.size →
  Run T (Res [.tmp 4] (.int .i64 (cmpL (a.toList.drop i) (b.toList.drop i)))) (.inLoop X48.b0 :: X48.k0) (mkE 39 [(0, .str a), (1, .str b), (5, .int .i64 i)]) [] := by
 intro n
 induction n with
 | zero =>
  intro i hn hi
  rw [run_round, run_unfold X48.b0.eq_1]
  have e1 : a.toList.drop i = [] := List.drop_eq_nil_of_le (by rw [toList_len]; omega)
  have hlt : ¬ i < a.size := by omega
  rw [e1]
  by_cases h : i < b.size
  ·have e2 : b.toList.drop i ≠ [] := by
    intro h0
    have := congrArg List.length h0
    rw [List.length_drop, toList_len] at this
    simp at this; omega
   have h3 : (a.size : Int) < b.size := by omega
   cases hd : b.toList.drop i with
   | nil => exact absurd hd e2
   | cons x y => simp (maxSteps := 2000000) only [go_sem, hlt, run_unfold X48.c0.eq_1, X48.k0, sgn, h3, cmpL, Int.ofNat_lt, show a.size < b.size by omega]
  ·have e2 : b.toList.drop i = [] := List.drop_eq_nil_of_le (by rw [toList_len]; omega)
   have h3 : a.size = b.size := by omega
   rw [e2]
   simp (maxSteps := 2000000) only [go_sem, hlt, h, run_unfold X48.c0.eq_1, X48.k0, sgn, h3, cmpL, Nat.lt_irrefl]
 | succ n ih =>
  intro i hn hi
  rw [run_round, run_unfold X48.b0.eq_1]
  have hlt : i < a.size := by omega
  have ha' : i < a.toList.length := by rw [toList_len]; omega
  rw [List.drop_eq_getElem_cons ha', toList_get hlt]
  by_cases h : i < b.size
  ·have hb' : i < b.toList.length := by rw [toList_len]; omega
   rw [List.drop_eq_getElem_cons hb', toList_get h]
   by_cases he : a[i] = b[i]
   ·simp (maxSteps := 2000000) only [go_sem, hlt, h, idxSV_nat hlt, idxSV_nat h, u8_eq, he, cmpL, wrap_succ (show i < 9223372036854775807 by omega)]
    exact ih (i + 1) (by omega) (by omega)
   ·by_cases hl : a[i] < b[i]
    ·simp (maxSteps := 2000000) only [go_sem, hlt, h, idxSV_nat hlt, idxSV_nat h, u8_eq, he, cmpL, sgn, u8_i64, u8_lt, hl]
    ·have hg : b[i] < a[i] := by
      rcases UInt8.lt_or_lt_of_ne he with h | h
      ·exact absurd h hl
      ·exact h
     simp (maxSteps := 2000000) only [go_sem, hlt, h, idxSV_nat hlt, idxSV_nat h, u8_eq, he, cmpL, sgn, u8_i64, u8_lt, hl, hg]
  ·have e2 : b.toList.drop i = [] := List.drop_eq_nil_of_le (by rw [toList_len]; omega)
   have h3 : b.size < a.size := by omega
   rw [e2]
   simp (maxSteps := 2000000) only [go_sem, hlt, h, run_unfold X48.c0.eq_1, X48.k0, sgn, h3, show ¬ a.size < b.size by omega, cmpL]

theorem X48_spec {a b : ByteArray} (ha : a.size < 9223372036854775807) (hb : b.size < 9223372036854775807) {lv : List Nat} {σ : Sto} {R : Post} : Cw T true i_X48 [.str a, .str b] lv σ R ↔ R (.int .i64 (cmpS a b)) σ := by
 refine cw_intro T_X48 (by simp only [go_sem]) (by simp) ?_; rw [run_unfold X48.main.eq_1]
 simp (maxSteps := 2000000) only [go_sem]
 have := X48_loop ha hb a.size 0 (by omega) (by omega)
 simp only [List.drop_zero] at this
 exact this
@[go_sem] theorem X48_call {a b : ByteArray} (ha : a.size < 9223372036854775807) (hb : b.size < 9223372036854775807) {Q : Post3} {k : List Item} {os : List AOper} {d : Option Nat} {e : Env} {σ : Sto} : CallK T Q k os d e σ true i_X48 [.str a, .str b] ↔ Run T Q (.ops os :: k) (put e d (.int .i64 (cmpS a b))) σ := X48_spec ha hb

end Go.Abs
/- Walks of chapter 42: values and rows are compared. -/
set_option linter.unusedSimpArgs false
set_option linter.unusedVariables false
namespace Go.Abs
open Go
attribute [local go_sem_proc] Nat.reduceLT Nat.reduceEqDiff Nat.reduceLeDiff Nat.reduceAdd Nat.reduceSub Nat.reduceMul Int.reduceLT Int.reduceLE Int.reduceEq Int.reduceNeg
attribute [local go_sem_proc ↓] reduceIte

def Short (v : Val) : Prop := v.s.size < 9223372036854775807
def cmpV (a b : Val) : Int := if a.k = b.k then (if a.i = b.i then cmpS a.s b.s else sgn a.i b.i) else sgn a.k b.k
theorem sgn_zero {a b : Int} : sgn a b = 0 ↔ a = b := by unfold sgn; repeat' split
                                                         all_goals omega

theorem X68_spec {a b : Val} (ha : Short a) (hb : Short b) {lv : List Nat} {σ : Sto} {R : Post} : Cw T true i_X68 [vA a, vA b] lv σ R ↔ R (.int .i64 (cmpV a b)) σ := by
  refine cw_intro T_X68 (by simp only [go_sem]) (by simp) ?_; rw [run_unfold X68.main.eq_1]
  unfold cmpV
  by_cases h1 : a.k = b.k
  · by_cases h2 : a.i = b.i
    · simp (maxSteps := 2000000) only [go_sem, h1, h2, X48_call ha hb]
    · simp (maxSteps := 2000000) only [go_sem, h1, h2]
  · simp (maxSteps := 2000000) only [go_sem, h1]
@[go_sem] theorem X68_call {a b : Val} (ha : Short a) (hb : Short b) {Q : Post3} {k : List Item} {os : List AOper} {d : Option Nat} {e : Env} {σ : Sto} : CallK T Q k os d e σ true i_X68 [vA a, vA b] ↔ Run T Q (.ops os :: k) (put e d (.int .i64 (cmpV a b))) σ := X68_spec ha hb


theorem X33_loop {f : SlF} {c : List Int} (hc : Fits c) : ∀ i, i ≤ c.length →
    Run T (Res [.tmp 2] (.int .i64 (((c.drop i).find? (fun x => !decide (x = 0))).getD 0))) (.inLoop X33.b0 :: X33.k0) (mkE 18 [(3, .int .i64 0), (6, ints f c), (7, .int .i64 c.length), (8, .int .i64 i)]) [] := by
  refine up_ind ?_ fun i hi ih => ?_
  · rw [run_round, run_unfold X33.b0.eq_1]
    simp (maxSteps := 2000000) only [go_sem, run_unfold X33.c0.eq_1, X33.k0, List.drop_length, List.find?_nil, Option.getD_none]
  · rw [run_round, run_unfold X33.b0.eq_1]
    rw [List.drop_eq_getElem_cons hi]
    by_cases h : c[i] = 0
    · simp (maxSteps := 2000000) only [go_sem, hi, h, List.find?_cons, wrap_succ (show i < 9223372036854775807 by omega)]
      exact ih
    · simp (maxSteps := 2000000) only [go_sem, hi, h, List.find?_cons, Option.getD_some]
theorem X52_loop {f : SlF} {c : List Int} (hc : Fits c) : ∀ i, i ≤ c.length →
    Run T (Res [.tmp 2] (.int .i64 (((c.drop i).find? (fun x => !decide (x = 0))).getD 0))) (.inLoop X52.b0 :: X52.k0) (mkE 18 [(3, .int .i64 0), (6, ints f c), (7, .int .i64 c.length), (8, .int .i64 i)]) [] := by
  refine up_ind ?_ fun i hi ih => ?_
  · rw [run_round, run_unfold X52.b0.eq_1]
    simp (maxSteps := 2000000) only [go_sem, run_unfold X52.c0.eq_1, X52.k0, List.drop_length, List.find?_nil, Option.getD_none]
  · rw [run_round, run_unfold X52.b0.eq_1]
    rw [List.drop_eq_getElem_cons hi]
    by_cases h : c[i] = 0
    · simp (maxSteps := 2000000) only [go_sem, hi, h, List.find?_cons, wrap_succ (show i < 9223372036854775807 by omega)]
      exact ih
    · simp (maxSteps := 2000000) only [go_sem, hi, h, List.find?_cons, Option.getD_some]
def firstN (c : List Int) : Int := (c.find? (fun x => !decide (x = 0))).getD 0
theorem X33_spec {f : SlF} {c : List Int} (hc : Fits c) {lv : List Nat} {σ : Sto} {R : Post} : Cw T true i_X33 [ints f c] lv σ R ↔ R (.int .i64 (firstN c)) σ := by
  refine cw_intro T_X33 (by simp only [go_sem]) (by simp) ?_; rw [run_unfold X33.main.eq_1]
  simp (maxSteps := 2000000) only [go_sem]
  exact X33_loop hc 0 (by omega)
@[go_sem] theorem X33_call {f : SlF} {c : List Int} (hc : Fits c) {Q : Post3} {k : List Item} {os : List AOper} {d : Option Nat} {e : Env} {σ : Sto} : CallK T Q k os d e σ true i_X33 [ints f c] ↔ Run T Q (.ops os :: k) (put e d (.int .i64 (firstN c))) σ := X33_spec hc

theorem X52_spec {f : SlF} {c : List Int} (hc : Fits c) {lv : List Nat} {σ : Sto} {R : Post} : Cw T true i_X52 [ints f c] lv σ R ↔ R (.int .i64 (firstN c)) σ := by
  refine cw_intro T_X52 (by simp only [go_sem]) (by simp) ?_; rw [run_unfold X52.main.eq_1]
  simp (maxSteps := 2000000) only [go_sem]
  exact X52_loop hc 0 (by omega)
@[go_sem] theorem X52_call {f : SlF} {c : List Int} (hc : Fits c) {Q : Post3} {k : List Item} {os : List AOper} {d : Option Nat} {e : Env} {σ : Sto} : CallK T Q k os d e σ true i_X52 [ints f c] ↔ Run T Q (.ops os :: k) (put e d (.int .i64 (firstN c))) σ := X52_spec hc

theorem firstN3 {a b c : Int} : firstN [a, b, c] = if a = 0 then (if b = 0 then c else b) else a := by
  unfold firstN
  by_cases h1 : a = 0
  · by_cases h2 : b = 0
    · by_cases h3 : c = 0
      · simp [h1, h2, h3]
      · simp [h1, h2, h3]
    · simp [h1, h2]
  · simp [h1]
theorem list3 {a b c : Int} : (AVal.list 1 [.int .i64 a, .int .i64 b, .int .i64 c]) = ints .lst [a, b, c] := (sv_lst ..).symm

theorem X55_spec {a b : Val} {lv : List Nat} {σ : Sto} {R : Post} : Cw T true i_X55 [vA a, vA b] lv σ R ↔ R (.int .i64 (cmpV a b)) σ := by
  refine cw_intro T_X55 (by simp only [go_sem]) (by simp) ?_; rw [run_unfold X55.main.eq_1]
  simp (maxSteps := 2000000) only [go_sem, list3]
  rw [X33_call (by simp)]
  have : firstN [sgn a.k b.k, sgn a.i b.i, cmpS a.s b.s] = cmpV a b := by
    rw [firstN3]
    unfold cmpV
    simp only [sgn_zero]
  simp (maxSteps := 2000000) only [go_sem, this]
@[go_sem] theorem X55_call {a b : Val} {Q : Post3} {k : List Item} {os : List AOper} {d : Option Nat} {e : Env} {σ : Sto} : CallK T Q k os d e σ true i_X55 [vA a, vA b] ↔ Run T Q (.ops os :: k) (put e d (.int .i64 (cmpV a b))) σ := X55_spec


def cmpR : List Val → List Val → Int
  | [], [] => 0
  | [], _ :: _ => -1
  | _ :: _, [] => 1
  | a :: x, b :: y => if cmpV a b = 0 then cmpR x y else cmpV a b

theorem X47_loop {f g : SlF} {a b : List Val} (ha : Fits a) (hb : Fits b) (hsa : ∀ v ∈ a, Short v) (hsb : ∀ v ∈ b, Short v) : ∀ (n i : Nat), a.length = i + n → i ≤ b.length →
    Run T (Res [.tmp 4] (.int .i64 (cmpR (a.drop i) (b.drop i)))) (.inLoop X47.b0 :: X47.k0) (mkE 36 [(0, rowA f a), (1, rowA g b), (5, .int .i64 i)]) [] := by
  intro n
  induction n with
  | zero =>
    intro i hn hi
    rw [run_round, run_unfold X47.b0.eq_1]
    have e1 : a.drop i = [] := List.drop_eq_nil_of_le (by omega)
    have hlt : ¬ i < a.length := by omega
    rw [e1]
    by_cases h : i < b.length
    · have h3 : (a.length : Int) < b.length := by omega
      rw [List.drop_eq_getElem_cons h]
      simp (maxSteps := 2000000) only [go_sem, hlt, h, run_unfold X47.c0.eq_1, X47.k0, sgn, h3, cmpR, show a.length < b.length by omega]
    · have h3 : a.length = b.length := by omega
      rw [List.drop_eq_nil_of_le (show b.length ≤ i by omega)]
      simp (maxSteps := 2000000) only [go_sem, hlt, h, run_unfold X47.c0.eq_1, X47.k0, sgn, h3, cmpR, Nat.lt_irrefl]
  | succ n ih =>
    intro i hn hi
    rw [run_round, run_unfold X47.b0.eq_1]
    have hlt : i < a.length := by omega
    rw [List.drop_eq_getElem_cons hlt]
    by_cases h : i < b.length
    · rw [List.drop_eq_getElem_cons h]
      have hc := @X68_call a[i] b[i] (hsa _ (List.getElem_mem hlt)) (hsb _ (List.getElem_mem h))
      by_cases he : cmpV a[i] b[i] = 0
      · simp (maxSteps := 2000000) only [go_sem, hlt, h, hc, he, cmpR, wrap_succ (show i < 9223372036854775807 by omega)]
        exact ih (i + 1) (by omega) (by omega)
      · simp (maxSteps := 2000000) only [go_sem, hlt, h, hc, he, cmpR]
    · rw [List.drop_eq_nil_of_le (show b.length ≤ i by omega)]
      have h3 : b.length < a.length := by omega
      simp (maxSteps := 2000000) only [go_sem, hlt, h, run_unfold X47.c0.eq_1, X47.k0, sgn, h3, show ¬ a.length < b.length by omega, cmpR]

theorem X47_spec {f g : SlF} {a b : List Val} (ha : Fits a) (hb : Fits b) (hsa : ∀ v ∈ a, Short v) (hsb : ∀ v ∈ b, Short v) {lv : List Nat} {σ : Sto} {R : Post} : Cw T true i_X47 [rowA f a, rowA g b] lv σ R ↔ R (.int .i64 (cmpR a b)) σ := by
  refine cw_intro T_X47 (by simp only [go_sem]) (by simp) ?_; rw [run_unfold X47.main.eq_1]
  simp (maxSteps := 2000000) only [go_sem]
  have := X47_loop (f := f) (g := g) ha hb hsa hsb a.length 0 (by omega) (by omega)
  simp only [List.drop_zero] at this
  exact this
@[go_sem] theorem X47_call {f g : SlF} {a b : List Val} (ha : Fits a) (hb : Fits b) (hsa : ∀ v ∈ a, Short v) (hsb : ∀ v ∈ b, Short v) {Q : Post3} {k : List Item} {os : List AOper} {d : Option Nat} {e : Env} {σ : Sto} : CallK T Q k os d e σ true i_X47 [rowA f a, rowA g b] ↔ Run T Q (.ops os :: k) (put e d (.int .i64 (cmpR a b))) σ := X47_spec ha hb hsa hsb


theorem cmpL_zero : ∀ {x y : List UInt8}, cmpL x y = 0 ↔ x = y := by
  intro x y
  have := cmpL_eq x y
  rw [← decide_eq_true_iff (p := cmpL x y = 0), ← this]
  exact beq_iff_eq
theorem cmpS_zero {x y : ByteArray} : cmpS x y = 0 ↔ x = y := by
  unfold cmpS
  rw [cmpL_zero, ByteArray.toList_eq, ByteArray.toList_eq]
  constructor
  · intro h
    have := Array.ext' h
    exact ByteArray.ext this
  · intro h; rw [h]
theorem cmpV_zero {a b : Val} : cmpV a b = 0 ↔ a = b := by
  obtain ⟨k, i, s⟩ := a
  obtain ⟨k', i', s'⟩ := b
  unfold cmpV
  simp only [Val.mk.injEq]
  split
  · rename_i h1
    split
    · rename_i h2; rw [cmpS_zero]; simp [h1, h2]
    · rename_i h2; rw [sgn_zero]; simp [h1, h2]
  · rename_i h1; rw [sgn_zero]; simp [h1]
theorem cmpR_zero : ∀ {a b : List Val}, cmpR a b = 0 ↔ a = b
  | [], [] => by simp [cmpR]
  | [], _ :: _ => by simp [cmpR]
  | _ :: _, [] => by simp [cmpR]
  | a :: x, b :: y => by
    simp only [cmpR, List.cons.injEq]
    split
    · rename_i h; rw [cmpR_zero, cmpV_zero.1 h]; simp
    · rename_i h
      constructor
      · intro h'; exact absurd h' h
      · intro h'; exact absurd (cmpV_zero.2 h'.1) h

theorem X59_spec {f g : SlF} {a b : List Val} (ha : Fits a) (hb : Fits b) (hsa : ∀ v ∈ a, Short v) (hsb : ∀ v ∈ b, Short v) {lv : List Nat} {σ : Sto} {R : Post} : Cw T true i_X59 [rowA f a, rowA g b] lv σ R ↔ R (.bool (decide (a = b))) σ := by
  refine cw_intro T_X59 (by simp only [go_sem]) (by simp) ?_; rw [run_unfold X59.main.eq_1]
  simp (maxSteps := 2000000) only [go_sem, X47_call ha hb hsa hsb, cmpR_zero]
@[go_sem] theorem X59_call {f g : SlF} {a b : List Val} (ha : Fits a) (hb : Fits b) (hsa : ∀ v ∈ a, Short v) (hsb : ∀ v ∈ b, Short v) {Q : Post3} {k : List Item} {os : List AOper} {d : Option Nat} {e : Env} {σ : Sto} : CallK T Q k os d e σ true i_X59 [rowA f a, rowA g b] ↔ Run T Q (.ops os :: k) (put e d (.bool (decide (a = b)))) σ := X59_spec ha hb hsa hsb


theorem X12_loop {f g : SlF} {a b : List Val} (ha : Fits a) (hb : Fits b) : ∀ (n i : Nat), a.length = i + n → i ≤ b.length →
    Run T (Res [.tmp 6] (.int .i64 (cmpR (a.drop i) (b.drop i)))) (.inLoop X12.b0 :: X12.k0) (mkE 39 [(0, rowA f a), (1, rowA g b), (2, .clo (.func i_X55) [] []), (11, rowA f a), (12, .int .i64 a.length), (13, .int .i64 i)]) [] := by
  intro n
  induction n with
  | zero =>
    intro i hn hi
    rw [run_round, run_unfold X12.b0.eq_1]
    have e1 : a.drop i = [] := List.drop_eq_nil_of_le (by omega)
    have hlt : ¬ i < a.length := by omega
    rw [e1]
    by_cases h : i < b.length
    · rw [List.drop_eq_getElem_cons h]
      simp (maxSteps := 2000000) only [go_sem, hlt, run_unfold X12.c0.eq_1, run_unfold X12.c1.eq_1, X12.k0, cmpR, show a.length < b.length by omega]
    · rw [List.drop_eq_nil_of_le (show b.length ≤ i by omega)]
      simp (maxSteps := 2000000) only [go_sem, hlt, run_unfold X12.c0.eq_1, run_unfold X12.c1.eq_1, X12.k0, cmpR, show ¬ a.length < b.length by omega]
  | succ n ih =>
    intro i hn hi
    rw [run_round, run_unfold X12.b0.eq_1]
    have hlt : i < a.length := by omega
    rw [List.drop_eq_getElem_cons hlt]
    by_cases h : i < b.length
    · rw [List.drop_eq_getElem_cons h]
      have hle : ¬ (b.length : Int) ≤ i := by omega
      by_cases he : cmpV a[i] b[i] = 0
      · simp (maxSteps := 2000000) only [go_sem, hlt, h, hle, he, cmpR, wrap_succ (show i < 9223372036854775807 by omega)]
        exact ih (i + 1) (by omega) (by omega)
      · simp (maxSteps := 2000000) only [go_sem, hlt, h, hle, he, cmpR]
    · rw [List.drop_eq_nil_of_le (show b.length ≤ i by omega)]
      have h3 : (b.length : Int) ≤ i := by omega
      simp (maxSteps := 2000000) only [go_sem, hlt, h, h3, run_unfold X12.c0.eq_1, run_unfold X12.c1.eq_1, X12.k0, cmpR]

theorem X39_spec {f g : SlF} {a b : List Val} (ha : Fits a) (hb : Fits b) {lv : List Nat} {σ : Sto} {R : Post} : Cw T true i_X39 [rowA f a, rowA g b] lv σ R ↔ R (.int .i64 (cmpR a b)) σ := by
  refine cw_intro T_X39 (by simp only [go_sem]) (by simp) ?_; rw [run_unfold X39.main.eq_1]
  have key : ∀ {lv : List Nat} {σ : Sto} {R : Post}, Cw T true i_X12 [rowA f a, rowA g b, .clo (.func i_X55) [] []] lv σ R ↔ R (.int .i64 (cmpR a b)) σ := by
    intro lv σ R
    refine cw_intro T_X12 (by simp only [go_sem]) (by simp) ?_; rw [run_unfold X12.main.eq_1]
    simp (maxSteps := 2000000) only [go_sem]
    have := X12_loop (f := f) (g := g) ha hb a.length 0 (by omega) (by omega)
    simp only [List.drop_zero] at this
    exact this
  simp (maxSteps := 2000000) only [go_sem, callK_of key]
@[go_sem] theorem X39_call {f g : SlF} {a b : List Val} (ha : Fits a) (hb : Fits b) {Q : Post3} {k : List Item} {os : List AOper} {d : Option Nat} {e : Env} {σ : Sto} : CallK T Q k os d e σ true i_X39 [rowA f a, rowA g b] ↔ Run T Q (.ops os :: k) (put e d (.int .i64 (cmpR a b))) σ := X39_spec ha hb

end Go.Abs
/- Walks of chapter 42: picked columns, lists of rows, results. -/
set_option linter.unusedSimpArgs false
set_option linter.unusedVariables false
namespace Go.Abs
open Go
attribute [local go_sem_proc] Nat.reduceLT Nat.reduceEqDiff Nat.reduceLeDiff Nat.reduceAdd Nat.reduceSub Nat.reduceMul Int.reduceLT Int.reduceLE Int.reduceEq Int.reduceNeg
attribute [local go_sem_proc ↓] reduceIte

theorem ba_beq (a b : ByteArray) : (a == b) = decide (a = b) := by
 obtain ⟨x⟩ := a
 obtain ⟨y⟩ := b
 have h1 : ((⟨x⟩ : ByteArray) == ⟨y⟩) = (x == y) := rfl
 rw [h1, Bool.eq_iff_iff, beq_iff_eq, decide_eq_true_iff]
 exact ⟨fun h => by rw [h], fun h => by injection h⟩
@[go_sem] theorem eqsV_val {neg : Bool} {k k' i i' : Int} {s s' : ByteArray} {σ : Sto} : eqsV neg (.row [(0, 1, false, .int .i64), (1, 1, false, .int .i64), (2, 1, false, .str)]) (.agg [.int .i64 k, .int .i64 i, .str s]) (.agg [.int .i64 k', .int .i64 i', .str s']) σ = some (.bool (if neg = true then !decide ((⟨k, i, s⟩ : Val) = ⟨k', i', s'⟩) else decide ((⟨k, i, s⟩ : Val) = ⟨k', i', s'⟩)), σ) := by
 have : eqA (.row [(0, 1, false, .int .i64), (1, 1, false, .int .i64), (2, 1, false, .str)]) (.agg [.int .i64 k, .int .i64 i, .str s]) (.agg [.int .i64 k', .int .i64 i', .str s']) = some (decide ((⟨k, i, s⟩ : Val) = ⟨k', i', s'⟩)) := by
  rw [eqA, eqParts]
  simp only [Val.mk.injEq, eqA, eqParts, ba_beq, List.getElem?_cons_zero, List.getElem?_cons_succ, Bool.false_eq_true, if_false, if_true]
  cases h1 : decide (k = k') <;> cases h2 : decide (i = i') <;> cases h3 : decide (s = s') <;> simp_all
 simp only [eqsV, this]
 cases neg <;> rfl

theorem X23_loop {f g : SlF} {a b : List Val} (ha : Fits a) (hl : a.length = b.length) : ∀ i, i ≤ a.length →
  Run T (Res [.tmp 4] (.bool (decide (a.drop i = b.drop i)))) (.inLoop X23.b0 :: X23.k0) (mkE 26 [(0, rowA f a), (1, rowA g b), (12, .int .i64 a.length), (13, .int .i64 i)]) [] := by
 refine up_ind ?_ fun i hi ih => ?_
 ·rw [run_round, run_unfold X23.b0.eq_1]
  simp (maxSteps := 2000000) only [go_sem, run_unfold X23.c0.eq_1, run_unfold X23.c1.eq_1, X23.k0, List.drop_length, show List.drop a.length b = [] by rw [hl]; exact List.drop_length]
 ·rw [run_round, run_unfold X23.b0.eq_1]
  have hb : i < b.length := by omega
  rw [List.drop_eq_getElem_cons hi, List.drop_eq_getElem_cons hb]
  simp only [List.cons.injEq]
  by_cases h : a[i] = b[i]
  ·simp (maxSteps := 2000000) only [go_sem, hi, hb, h, wrap_succ (show i < 9223372036854775807 by omega)]
   exact ih
  ·simp (maxSteps := 2000000) only [go_sem, hi, hb, h]

theorem X23_spec {f g : SlF} {a b : List Val} (ha : Fits a) (hb : Fits b) {lv : List Nat} {σ : Sto} {R : Post} : Cw T true i_X23 [rowA f a, rowA g b] lv σ R ↔ R (.bool (decide (a = b))) σ := by
 refine cw_intro T_X23 (by simp only [go_sem]) (by simp) ?_; rw [run_unfold X23.main.eq_1]
 by_cases hl : a.length = b.length
 ·simp (maxSteps := 2000000) only [go_sem, hl]
  have := X23_loop (f := f) (g := g) ha hl 0 (by omega)
  simp only [List.drop_zero, hl] at this
  exact this
 ·have h1 : ¬ (a.length : Int) = b.length := by omega
  have h2 : a ≠ b := fun e => hl (by rw [e])
  simp (maxSteps := 2000000) only [go_sem, h1, h2]
@[go_sem] theorem X23_call {f g : SlF} {a b : List Val} (ha : Fits a) (hb : Fits b) {Q : Post3} {k : List Item} {os : List AOper} {d : Option Nat} {e : Env} {σ : Sto} : CallK T Q k os d e σ true i_X23 [rowA f a, rowA g b] ↔ Run T Q (.ops os :: k) (put e d (.bool (decide (a = b)))) σ := X23_spec ha hb


def pickC (r : List Val) (by_ : List Int) : List Val := by_.map fun c => r.getD c.toNat ⟨0, 0, ⟨#[]⟩⟩
abbrev InC (r : List Val) (by_ : List Int) : Prop := ∀ c ∈ by_, 0 ≤ c ∧ c < r.length
abbrev z3 : List AVal := [.int .i64 0, .int .i64 0, .str ⟨#[]⟩]
abbrev cellsV (r : List Val) : List AVal := r.flatMap fun v => [.int .i64 v.k, .int .i64 v.i, .str v.s]
theorem cellsV_len (r : List Val) : (cellsV r).length = r.length * 3 := flatMap_len (g := fun v : Val => [.int .i64 v.k, .int .i64 v.i, .str v.s]) (fun _ => rfl) r
theorem getD_int {r : List Val} {c : Int} (h0 : 0 ≤ c) (h : c < r.length) : r.getD c.toNat ⟨0, 0, ⟨#[]⟩⟩ = r[c.toNat]'(by omega) := by
 rw [List.getD_eq_getElem?_getD, List.getElem?_eq_getElem (by omega)]; rfl
theorem over_val {l : List Val} {i : Nat} {v : Val} (h : i < l.length) : overwrite (cellsV l) (i * 3) [.int .i64 v.k, .int .i64 v.i, .str v.s] = cellsV (l.set i v) := by
 induction l generalizing i with
 | nil => simp at h
 | cons x l ih =>
  cases i with
  | zero => simp [overwrite, cellsV]
  | succ i =>
   have := ih (i := i) (by simpa using h)
   simp only [overwrite, cellsV, List.flatMap_cons, List.set_cons_succ, List.length_cons, List.length_nil] at this ⊢
   rw [show (i + 1) * 3 = i * 3 + 3 by omega]
   simp only [List.cons_append, List.nil_append, List.take_succ_cons, show i * 3 + 3 = (i * 3 + 2) + 1 from rfl, show i * 3 + 2 = (i * 3 + 1) + 1 from rfl, show i * 3 + 1 = (i * 3) + 1 from rfl]
   rw [show i * 3 + 1 + 1 + 1 + (0 + 1 + 1 + 1) = (i * 3 + (0 + 1 + 1 + 1)) + 1 + 1 + 1 by omega]
   simp only [List.drop_succ_cons]
   exact congrArg _ (congrArg _ (congrArg _ this))
theorem snap_vals {n o : Nat} {σ : Sto} {c : List Val} (hσ : σ[o]? = some (.cells false (cellsV c))) : snapA σ (n + 2) (.ref o (c.length * 3) 0 c.length 3) = some (rowA .lst c) := by
 rw [snapA_refN hσ (cellsV_len c) rfl (by decide) (v_names_flat (fun _ => rfl) c), chunk_flatMap (k := 3) (g := fun v : Val => [.int .i64 v.k, .int .i64 v.i, .str v.s]) (by decide) (fun _ => rfl)]
 exact congrArg some (sv_lst ..).symm

theorem X37_loop {f g : SlF} {r : List Val} {by_ : List Int} (hb : by_.length < 1000000) (hin : InC r by_) : ∀ i, i ≤ by_.length → ∀ (D : List Val), D.length = by_.length →
  Run T (Res [.tmp 4] (rowA .lst (D.take i ++ (pickC r by_).drop i))) (.inLoop X37.b0 :: X37.k0) (mkE 27 [(0, rowA f r), (5, .ref 0 (by_.length * 3) 0 by_.length 3), (11, ints g by_), (12, .int .i64 by_.length), (13, .int .i64 i)]) [.cells false (cellsV D)] := by
 refine up_ind ?_ fun i hi ih => ?_
 ·intro D hD
  rw [run_round, run_unfold X37.b0.eq_1]
  have e1 : (pickC r by_).drop by_.length = [] := List.drop_eq_nil_of_le (by simp [pickC])
  have hs := snap_vals (n := 62) (o := 0) (σ := [.cells false (cellsV D)]) (c := D) rfl
  rw [hD] at hs
  simp (maxSteps := 2000000) only [go_sem, run_unfold X37.c0.eq_1, run_unfold X37.c1.eq_1, X37.k0, e1, List.append_nil, List.take_of_length_le (Nat.le_of_eq hD), hs]
 ·intro D hD
  rw [run_round, run_unfold X37.b0.eq_1]
  obtain ⟨h0, h1⟩ := hin by_[i] (List.getElem_mem hi)
  obtain ⟨c, hc⟩ := Int.eq_ofNat_of_zero_le h0
  have h1' : c < r.length := by omega
  have hiD : i < D.length := by omega
  have hp : i < (pickC r by_).length := by simpa [pickC] using hi
  have hpi : (pickC r by_)[i] = r[c] := by
   simp only [pickC, List.getElem_map]
   rw [getD_int h0 h1]
   congr 1; omega
  have hov := over_val (l := D) (i := i) (v := r[c]) hiD
  simp only [overwrite, List.length_cons, List.length_nil, Nat.reduceAdd] at hov
  have hlen : i * 3 + 3 ≤ by_.length * 3 := by omega
  have ih' := ih (D.set i r[c]) (by simpa using hD)
  have e1 : (D.set i r[c]).take (i + 1) ++ (pickC r by_).drop (i + 1) = D.take i ++ (pickC r by_).drop i := by
   rw [List.drop_eq_getElem_cons hp, hpi, List.take_succ_eq_append_getElem (by simpa using hiD)]
   simp [List.take_set_of_le]
  rw [e1] at ih'
  simp (maxSteps := 2000000) only [go_sem, hi, hc, h1', hlen, cellsV_len, hD, hov, Nat.zero_add, wrap_succ (show i < 9223372036854775807 by omega)]
  exact ih'

theorem mk_gen {σ : Sto} {m bytes n : Nat} {z : List AVal} (h : n * bytes ≤ 100000000) (hb : 0 < bytes) : mksliceV m bytes z (.int .i64 n) (.int .i64 n) σ = some (.ref σ.length (n * m) 0 n m, σ ++ [.cells false (List.replicate n z).flatten]) := by
 have e : IntKind.i64.max = 9223372036854775807 := by decide
 have h1 : (n : Int) ≤ 100000000 := by
  have : n ≤ n * bytes := Nat.le_mul_of_pos_right n hb
  omega
 simp only [mksliceV, e]
 rw [if_pos ⟨by omega, by omega, by simp only [Int.toNat_natCast, maxBytes]; rw [Nat.mul_comm]; omega, by omega⟩]
 simp
theorem flat_z3 (n : Nat) : (List.replicate n z3).flatten = cellsV (List.replicate n ⟨0, 0, ⟨#[]⟩⟩) := by
 induction n with
 | zero => rfl
 | succ n ih => simp only [List.replicate_succ, cellsV, List.flatMap_cons, List.flatten_cons] at ih ⊢; rw [ih]

theorem X37_spec {f g : SlF} {r : List Val} {by_ : List Int} (hb : by_.length < 1000000) (hin : InC r by_) {lv : List Nat} {σ : Sto} {R : Post} : Cw T true i_X37 [rowA f r, ints g by_] lv σ R ↔ R (rowA .lst (pickC r by_)) σ := by
 refine cw_intro T_X37 (by simp only [go_sem]) (by simp) ?_; rw [run_unfold X37.main.eq_1]
 have := X37_loop (f := f) (g := g) hb hin 0 (by omega) (List.replicate by_.length ⟨0, 0, ⟨#[]⟩⟩) (by simp)
 simp only [List.take_zero, List.nil_append, List.drop_zero] at this
 simp (maxSteps := 2000000) only [go_sem, mk_gen (show by_.length * 32 ≤ 100000000 by omega) (by decide), flat_z3, cellsV_len, List.length_replicate]
 exact this
@[go_sem] theorem X37_call {f g : SlF} {r : List Val} {by_ : List Int} (hb : by_.length < 1000000) (hin : InC r by_) {Q : Post3} {k : List Item} {os : List AOper} {d : Option Nat} {e : Env} {σ : Sto} : CallK T Q k os d e σ true i_X37 [rowA f r, ints g by_] ↔ Run T Q (.ops os :: k) (put e d (rowA .lst (pickC r by_))) σ := X37_spec hb hin

end Go.Abs
/- Walks of chapter 42: orders. -/
set_option linter.unusedSimpArgs false
set_option linter.unusedVariables false
namespace Go.Abs
open Go
attribute [local go_sem_proc] Nat.reduceLT Nat.reduceEqDiff Nat.reduceLeDiff Nat.reduceAdd Nat.reduceSub Nat.reduceMul Int.reduceLT Int.reduceLE Int.reduceEq Int.reduceNeg
attribute [local go_sem_proc ↓] reduceIte

abbrev Rows := List (SlF × List Val)
def RowsFit (l : Rows) : Prop := l.length ≤ 300 ∧ ∀ p ∈ l, Fits p.2 ∧ ∀ v ∈ p.2, Short v
theorem RowsFit.get {l : Rows} (h : RowsFit l) {i : Nat} (hi : i < l.length) : Fits l[i].2 := (h.2 _ (List.getElem_mem hi)).1
def rowN (l : Rows) (x : Int) : List Val := (l.getD x.toNat (.nil, [])).2
theorem rowN_get {l : Rows} {i : Nat} (h : i < l.length) : rowN l (i : Int) = l[i].2 := by
  simp only [rowN, Int.toNat_natCast]
  rw [List.getD_eq_getElem?_getD, List.getElem?_eq_getElem h]; rfl
def cmpI (l : Rows) (by_ : List Int) (x y : Int) : Int := firstN [cmpR (pickC (rowN l x) by_) (pickC (rowN l y) by_), cmpR (rowN l x) (rowN l y), sgn x y]
def AllIn (l : Rows) (by_ : List Int) : Prop := ∀ p ∈ l, InC p.2 by_

theorem X32_spec' {f g : SlF} {l : Rows} {by_ : List Int} {i j : Nat} (hl : RowsFit l) (hb : by_.length < 1000000) (hin : AllIn l by_) (hi : i < l.length) (hj : j < l.length) {lv : List Nat} {σ : Sto} {R : Post} :
    Cw T true i_X32 [.int .i64 (i : Int), .int .i64 (j : Int), .fptr [rowsA f l], .fptr [ints g by_]] lv σ R ↔ R (.int .i64 (cmpI l by_ i j)) σ := by
  refine cw_intro T_X32 (by simp only [go_sem]) (by simp) ?_; rw [run_unfold X32.main.eq_1]
  have h1 := hin _ (List.getElem_mem hi)
  have h2 := hin _ (List.getElem_mem hj)
  have f1 : Fits (pickC l[i].2 by_) := by simp only [Fits, pickC, List.length_map]; omega
  have f2 : Fits (pickC l[j].2 by_) := by simp only [Fits, pickC, List.length_map]; omega
  unfold cmpI
  rw [rowN_get hi, rowN_get hj]
  simp (maxSteps := 2000000) only [go_sem, hi, hj, X37_call hb h1, X37_call hb h2, X39_call f1 f2, X39_call (hl.get hi) (hl.get hj), list3]
  rw [X52_call (by simp)]
  simp (maxSteps := 2000000) only [go_sem]

theorem Int.toNat_cases {p : Int → Prop} (h : ∀ n : Nat, p n) {x : Int} (hx : 0 ≤ x) : p x := by
  obtain ⟨n, rfl⟩ := Int.eq_ofNat_of_zero_le hx
  exact h n

def ltI (l : Rows) (by_ : List Int) (x y : Int) : Bool := decide (cmpI l by_ x y < 0)
abbrev InN (n : Nat) (x : Int) : Prop := 0 ≤ x ∧ x < n

theorem sgn_anti (a b : Int) : sgn b a = - sgn a b := by unfold sgn; repeat' split
                                                         all_goals omega
theorem cmpL_anti : ∀ (x y : List UInt8), cmpL y x = - cmpL x y
  | [], [] => by simp [cmpL]
  | [], b :: y => by simp [cmpL]
  | a :: x, [] => by simp [cmpL]
  | a :: x, b :: y => by
    simp only [cmpL]
    by_cases h : a = b
    · subst h; simp [cmpL_anti x y]
    · have h' : ¬ b = a := fun e => h e.symm
      by_cases hl : a < b
      · have : ¬ b < a := fun h2 => UInt8.lt_irrefl a (UInt8.lt_trans hl h2)
        simp [h, h', hl, this]
      · have : b < a := by
          rcases UInt8.lt_or_lt_of_ne h with h2 | h2
          · exact absurd h2 hl
          · exact h2
        simp [h, h', hl, this]
theorem cmpV_anti (a b : Val) : cmpV b a = - cmpV a b := by
  unfold cmpV
  by_cases h1 : a.k = b.k
  · by_cases h2 : a.i = b.i
    · simp only [h1, h2, if_true]; exact cmpL_anti _ _
    · have h2' : ¬ b.i = a.i := fun e => h2 e.symm
      simp only [h1, h2, h2', if_true, if_false]; exact sgn_anti _ _
  · have h1' : ¬ b.k = a.k := fun e => h1 e.symm
    simp only [h1, h1', if_false]; exact sgn_anti _ _
theorem cmpR_anti : ∀ (x y : List Val), cmpR y x = - cmpR x y
  | [], [] => by simp [cmpR]
  | [], b :: y => by simp [cmpR]
  | a :: x, [] => by simp [cmpR]
  | a :: x, b :: y => by
    simp only [cmpR, cmpV_anti a b]
    by_cases h : cmpV a b = 0
    · simp [h, cmpR_anti x y]
    · simp [h]

theorem sgn_trans {a b c : Int} (h1 : sgn a b ≤ 0) (h2 : sgn b c ≤ 0) : sgn a c ≤ 0 ∧ (sgn a c = 0 → sgn a b = 0 ∧ sgn b c = 0) := by
  unfold sgn at *; repeat' split at h1
  all_goals repeat' split at h2
  all_goals repeat' split
  all_goals omega
theorem cmpL_trans : ∀ {x y z : List UInt8}, cmpL x y ≤ 0 → cmpL y z ≤ 0 → cmpL x z ≤ 0 ∧ (cmpL x z = 0 → cmpL x y = 0 ∧ cmpL y z = 0)
  | [], [], z, _, h2 => ⟨h2, fun h => ⟨rfl, h⟩⟩
  | [], b :: y, [], _, h2 => by simp [cmpL] at h2
  | [], b :: y, c :: z, _, _ => by simp [cmpL]
  | a :: x, [], z, h1, _ => by simp [cmpL] at h1
  | a :: x, b :: y, [], _, h2 => by simp [cmpL] at h2
  | a :: x, b :: y, c :: z, h1, h2 => by
    simp only [cmpL] at h1 h2 ⊢
    by_cases e1 : a = b
    · subst e1
      by_cases e2 : a = c
      · subst e2; simp only [if_true] at h1 h2 ⊢; exact cmpL_trans h1 h2
      · simp only [if_true, if_neg e2] at h1 h2 ⊢
        by_cases l : a < c
        · simp only [if_pos l]; omega
        · simp only [if_neg l] at h2; omega
    · simp only [if_neg e1] at h1 ⊢
      by_cases l : a < b
      · by_cases e2 : b = c
        · subst e2; simp only [if_neg e1, if_pos l]; omega
        · simp only [if_neg e2] at h2 ⊢
          by_cases l2 : b < c
          · have l3 := UInt8.lt_trans l l2
            have e3 : a ≠ c := fun e => by subst e; exact UInt8.lt_irrefl _ l3
            simp only [if_neg e3, if_pos l3]; omega
          · simp only [if_neg l2] at h2; omega
      · simp only [if_neg l] at h1; omega
theorem cmpV_trans {a b c : Val} (h1 : cmpV a b ≤ 0) (h2 : cmpV b c ≤ 0) : cmpV a c ≤ 0 ∧ (cmpV a c = 0 → cmpV a b = 0 ∧ cmpV b c = 0) := by
  unfold cmpV at *
  by_cases e1 : a.k = b.k
  · by_cases e2 : b.k = c.k
    · simp only [e1, e2, if_true] at h1 h2 ⊢
      by_cases e3 : a.i = b.i
      · by_cases e4 : b.i = c.i
        · simp only [e3, e4, if_true] at h1 h2 ⊢; exact cmpL_trans h1 h2
        · simp only [e3, e4, if_true, if_false] at h1 h2 ⊢
          exact ⟨h2, fun h => absurd (sgn_zero.1 h) e4⟩
      · by_cases e4 : b.i = c.i
        · have e5 : ¬ a.i = c.i := fun e => e3 (by omega)
          simp only [e3, e4, e5, if_true, if_false] at h1 h2 ⊢
          exact ⟨h1, fun h => absurd (sgn_zero.1 h) e5⟩
        · simp only [e3, e4, if_false] at h1 h2 ⊢
          have := sgn_trans h1 h2
          have e5 : ¬ a.i = c.i := fun e => by
            have := this.2 (sgn_zero.2 e)
            exact e3 (sgn_zero.1 this.1)
          simp only [e5, if_false]
          exact ⟨this.1, fun h => absurd (sgn_zero.1 h) e5⟩
    · simp only [e1, e2, if_true, if_false] at h1 h2 ⊢
      exact ⟨h2, fun h => absurd (sgn_zero.1 h) e2⟩
  · by_cases e2 : b.k = c.k
    · have e5 : ¬ a.k = c.k := fun e => e1 (by omega)
      simp only [e1, e2, e5, if_true, if_false] at h1 h2 ⊢
      exact ⟨h1, fun h => absurd (sgn_zero.1 h) e5⟩
    · simp only [e1, e2, if_false] at h1 h2 ⊢
      have := sgn_trans h1 h2
      have e5 : ¬ a.k = c.k := fun e => by
        have := this.2 (sgn_zero.2 e)
        exact e1 (sgn_zero.1 this.1)
      simp only [e5, if_false]
      exact ⟨this.1, fun h => absurd (sgn_zero.1 h) e5⟩
theorem cmpR_trans : ∀ {x y z : List Val}, cmpR x y ≤ 0 → cmpR y z ≤ 0 → cmpR x z ≤ 0 ∧ (cmpR x z = 0 → cmpR x y = 0 ∧ cmpR y z = 0)
  | [], [], z, _, h2 => ⟨h2, fun h => ⟨rfl, h⟩⟩
  | [], b :: y, [], _, h2 => by simp [cmpR] at h2
  | [], b :: y, c :: z, _, _ => by simp [cmpR]
  | a :: x, [], z, h1, _ => by simp [cmpR] at h1
  | a :: x, b :: y, [], _, h2 => by simp [cmpR] at h2
  | a :: x, b :: y, c :: z, h1, h2 => by
    simp only [cmpR] at h1 h2 ⊢
    by_cases e1 : cmpV a b = 0
    · have := cmpV_zero.1 e1
      subst this
      by_cases e2 : cmpV a c = 0
      · simp only [e1, e2, if_true] at h1 h2 ⊢; exact cmpR_trans h1 h2
      · simp only [e1, e2, if_true, if_false] at h1 h2 ⊢
        exact ⟨h2, fun h => h.elim⟩
    · simp only [e1, if_false] at h1 ⊢
      by_cases e2 : cmpV b c = 0
      · have := cmpV_zero.1 e2
        subst this
        simp only [e1, e2, if_false, if_true]
        exact ⟨h1, fun h => h.elim⟩
      · simp only [e2, if_false] at h2 ⊢
        have := cmpV_trans h1 h2
        have e3 : ¬ cmpV a c = 0 := fun e => e1 (this.2 e).1
        simp only [e3, if_false]
        exact ⟨this.1, fun h => h.elim⟩
theorem cmpI_anti (l : Rows) (by_ : List Int) (x y : Int) : cmpI l by_ y x = - cmpI l by_ x y := by
  simp only [cmpI, firstN3, cmpR_anti (pickC (rowN l x) by_), cmpR_anti (rowN l x), sgn_anti x y, Int.neg_eq_zero]
  repeat' split
  all_goals first | rfl | omega
theorem cmpI_zero {l : Rows} {by_ : List Int} {x y : Int} : cmpI l by_ x y = 0 ↔ x = y := by
  simp only [cmpI, firstN3]
  constructor
  · intro h
    split at h
    · split at h
      · exact sgn_zero.1 h
      · rename_i h1; exact absurd h h1
    · rename_i h1; exact absurd h h1
  · rintro rfl
    rw [if_pos (cmpR_zero.2 rfl), if_pos (cmpR_zero.2 rfl)]; exact sgn_zero.2 rfl
theorem cmpI_trans {l : Rows} {by_ : List Int} {x y z : Int} (h1 : cmpI l by_ x y ≤ 0) (h2 : cmpI l by_ y z ≤ 0) : cmpI l by_ x z ≤ 0 := by
  simp only [cmpI, firstN3] at h1 h2 ⊢
  generalize hxp : pickC (rowN l x) by_ = px at *
  generalize hyp : pickC (rowN l y) by_ = py at *
  generalize hzp : pickC (rowN l z) by_ = pz at *
  generalize rowN l x = rx at *
  generalize rowN l y = ry at *
  generalize rowN l z = rz at *
  have l1 : cmpR px py ≤ 0 := by
    by_cases e : cmpR px py = 0
    · omega
    · rw [if_neg e] at h1; exact h1
  have l2 : cmpR py pz ≤ 0 := by
    by_cases e : cmpR py pz = 0
    · omega
    · rw [if_neg e] at h2; exact h2
  obtain ⟨t1, t2⟩ := cmpR_trans l1 l2
  by_cases e : cmpR px pz = 0
  · obtain ⟨e1, e2⟩ := t2 e
    rw [if_pos e]; rw [if_pos e1] at h1; rw [if_pos e2] at h2
    have m1 : cmpR rx ry ≤ 0 := by
      by_cases e : cmpR rx ry = 0
      · omega
      · rw [if_neg e] at h1; exact h1
    have m2 : cmpR ry rz ≤ 0 := by
      by_cases e : cmpR ry rz = 0
      · omega
      · rw [if_neg e] at h2; exact h2
    obtain ⟨s1, s2⟩ := cmpR_trans m1 m2
    by_cases e' : cmpR rx rz = 0
    · obtain ⟨e1', e2'⟩ := s2 e'
      rw [if_pos e']; rw [if_pos e1'] at h1; rw [if_pos e2'] at h2
      exact (sgn_trans h1 h2).1
    · rw [if_neg e']; exact s1
  · rw [if_neg e]; exact t1

theorem ltI_tot (l : Rows) (by_ : List Int) (p : Int → Prop) : Tot (ltI l by_) p where
  asym a b _ _ h := by
    simp only [ltI, decide_eq_true_eq, decide_eq_false_iff_not] at h ⊢
    rw [cmpI_anti]; omega
  trans a b c _ _ _ h1 h2 := by
    simp only [ltI, decide_eq_false_iff_not] at h1 h2 ⊢
    have h1' : cmpI l by_ b a ≤ 0 := by rw [cmpI_anti]; omega
    have h2' : cmpI l by_ c b ≤ 0 := by rw [cmpI_anti]; omega
    have := cmpI_trans h2' h1'
    rw [cmpI_anti] at this; omega
  tot a b _ _ h := by
    simp only [ltI, decide_eq_true_eq]
    have h0 : cmpI l by_ a b ≠ 0 := fun e => h (cmpI_zero.1 e)
    have := cmpI_anti l by_ a b
    omega

def upN (n : Nat) : List Int := (List.range n).map fun (i : Nat) => (i : Int)
def sortI (l : Rows) (by_ : List Int) : List Int := isort (ltI l by_) (upN l.length)
theorem upN_len (n : Nat) : (upN n).length = n := by simp [upN]
theorem upN_mem {n : Nat} {x : Int} (h : x ∈ upN n) : InN n x := by
  simp only [upN, List.mem_map, List.mem_range] at h
  obtain ⟨i, hi, rfl⟩ := h
  exact ⟨by omega, by omega⟩
theorem upN_nodup (n : Nat) : (upN n).Nodup := by
  unfold upN
  rw [List.Nodup, List.pairwise_map]
  exact List.Pairwise.imp (fun h e => h (by omega)) List.nodup_range
theorem sortI_len (l : Rows) (by_ : List Int) : (sortI l by_).length = l.length := by rw [sortI, isort_len, upN_len]

theorem upN_succ (n : Nat) : upN (n + 1) = upN n ++ [(n : Int)] := by simp [upN, List.range_succ]
theorem upN_get {n i : Nat} (h : i < (upN n).length) : (upN n)[i] = (i : Int) := by simp [upN]

theorem snapA_ptrN {n o gen : Nat} {nl : Bool} {cs : List AVal} {σ : Sto} (hσ : σ[o]? = some (.cells nl cs)) (hl : cs.length = gen) (hp : AVal.pures cs = true) : snapA σ (n + 2) (.ptr o gen 0) = some (.fptr cs) := by
  have h0 : (AVal.ptr o gen 0).pure = false := by simp [AVal.names]
  rw [snapA, h0]
  simp only [Bool.false_eq_true, if_false, hσ, hl, if_true, List.drop_zero, mapM_snapN hp, Option.map_some]

theorem X38_end {f g : SlF} {l : Rows} {by_ : List Int} (hl : RowsFit l) (hb : by_.length < 1000000) (hin : AllIn l by_) :
    Run T (Res [.tmp 4] (ints .lst (sortI l by_))) [.code X38.c0] (mkE 24 [(2, .ptr 0 1 0), (3, .ptr 1 1 0), (5, .ref 2 l.length 0 l.length 1)]) [.cells false [rowsA f l], .cells false [ints g by_], .cells false ((upN l.length).map fun n => .int .i64 n)] := by
  have S : Srt [.cells false [rowsA f l], .cells false [ints g by_], .dead] 2 false i_X32 [] [.ptr 0 1 0, .ptr 1 1 0] (ltI l by_) (InN l.length) := by
    refine ⟨ltI_tot l by_ _, by simp, fun E x y D hx hy => ⟨cmpI l by_ x y, rfl, fun {Q k os d e} => ?_⟩⟩
    obtain ⟨i, rfl⟩ := Int.eq_ofNat_of_zero_le hx.1
    obtain ⟨j, rfl⟩ := Int.eq_ofNat_of_zero_le hy.1
    refine callK_live T_X32 (as := [.int .i64 (i : Int), .int .i64 (j : Int), .fptr [rowsA f l], .fptr [ints g by_]]) (fun {lv σ R} => X32_spec' hl hb hin (by omega) (by omega)) ?_ (by simp (maxSteps := 2000000) only [go_sem]) rfl
    have e1 : snapA (stI ([.cells false [rowsA f l], .cells false [ints g by_], .dead] ++ E) 2 false D) snapDepth (.ptr 0 1 0) = some (.fptr [rowsA f l]) := snapA_ptrN (n := 62) (nl := false) rfl rfl (by simp (maxSteps := 2000000) only [go_sem])
    have e2 : snapA (stI ([.cells false [rowsA f l], .cells false [ints g by_], .dead] ++ E) 2 false D) snapDepth (.ptr 1 1 0) = some (.fptr [ints g by_]) := snapA_ptrN (n := 62) (nl := false) rfl rfl (by simp (maxSteps := 2000000) only [go_sem])
    have e3 : ∀ (σ : Sto) (n : Int), snapA σ snapDepth (.int .i64 n) = some (.int .i64 n) := fun σ n => snapA_pure rfl
    show List.mapM (m := Option) _ ([.int .i64 (i : Int), .int .i64 (j : Int), .ptr 0 1 0, .ptr 1 1 0] : List AVal) = _
    simp only [List.mapM_cons, List.mapM_nil, e1, e2, e3, Option.pure_def, Option.bind_eq_bind, Option.bind_some]
  have h : ∀ {R : Post}, (∀ E, R (.tup []) (stI ([.cells false [rowsA f l], .cells false [ints g by_], .dead] ++ E) 2 false (isort (ltI l by_) (upN l.length)))) →
      Cw T false i_X20 [.ref 2 l.length 0 l.length 1, .clo (.func i_X32) [] [.ptr 0 1 0, .ptr 1 1 0]] [] [.cells false [rowsA f l], .cells false [ints g by_], .cells false ((upN l.length).map fun n => .int .i64 n)] R := fun {R} next => by
    have := sortFunc_int S (D := upN l.length) (R := R) (by rw [upN_len]; exact hl.1) (fun x hx => upN_mem hx) (upN_nodup _) next
    rw [upN_len] at this
    exact this
  rw [run_unfold X38.c0.eq_1]
  simp (maxSteps := 2000000) only [go_sem]
  unfold CallK
  refine h fun E => ?_
  have hs : ((stI ([.cells false [rowsA f l], .cells false [ints g by_], .dead] ++ E) 2 false (isort (ltI l by_) (upN l.length))) : Sto)[2]? = some (.cells false ((sortI l by_).map fun n => .int .i64 n)) := by
    rw [stI_get (by simp)]; rfl
  have hsn := snap_ints (n := 62) hs
  rw [sortI_len] at hsn
  simp (maxSteps := 2000000) only [go_sem]
  exact hsn

theorem X38_loop {f g : SlF} {l : Rows} {by_ : List Int} (hl : RowsFit l) (hb : by_.length < 1000000) (hin : AllIn l by_) : ∀ i, i ≤ l.length → ∀ (D : List Int), D.length = l.length → D.take i = upN i →
    Run T (Res [.tmp 4] (ints .lst (sortI l by_))) (.inLoop X38.b0 :: X38.k0) (mkE 24 [(2, .ptr 0 1 0), (3, .ptr 1 1 0), (5, .ref 2 l.length 0 l.length 1), (11, .int .i64 l.length), (12, .int .i64 i)]) [.cells false [rowsA f l], .cells false [ints g by_], .cells false (D.map fun n => .int .i64 n)] := by
  refine up_ind ?_ fun i hi ih => ?_
  · intro D hD ht
    rw [run_round, run_unfold X38.b0.eq_1]
    rw [List.take_of_length_le (by omega)] at ht
    subst ht
    have := X38_end (f := f) (g := g) hl hb hin
    simp (maxSteps := 2000000) only [go_sem, X38.k0]
    exact this
  · intro D hD ht
    rw [run_round, run_unfold X38.b0.eq_1]
    have hiD : i < D.length := by omega
    have hl3 := hl.1
    have hlen : i + 1 ≤ l.length := hi
    have ih' := ih (D.set i (i : Int)) (by simpa using hD) (by
      rw [upN_succ, ← ht, List.take_succ_eq_append_getElem (by simpa using hiD)]
      simp [List.take_set_of_le])
    have hov : (D.map fun n => AVal.int .i64 n).take i ++ [AVal.int .i64 (i : Int)] ++ (D.map fun n => AVal.int .i64 n).drop (i + 1) = (D.set i (i : Int)).map fun n => AVal.int .i64 n := by
      rw [List.set_eq_take_append_cons_drop, if_pos hiD]
      simp
    simp (maxSteps := 2000000) only [go_sem, hi, hD, hlen, Nat.mul_one, Nat.zero_add, hov, wrap_succ (show i < 9223372036854775807 by omega)]
    exact ih'

theorem flat_zi (n : Nat) : (List.replicate n [AVal.int .i64 0]).flatten = (List.replicate n (0 : Int)).map fun n => AVal.int .i64 n := by
  induction n with
  | zero => rfl
  | succ n ih => simp only [List.replicate_succ, List.flatten_cons, List.map_cons, ih]; rfl
theorem X38_spec {f g : SlF} {l : Rows} {by_ : List Int} (hl : RowsFit l) (hb : by_.length < 1000000) (hin : AllIn l by_) {lv : List Nat} {σ : Sto} {R : Post} : Cw T true i_X38 [rowsA f l, ints g by_] lv σ R ↔ R (ints .lst (sortI l by_)) σ := by
  refine cw_intro T_X38 (by simp only [go_sem]) (by simp) ?_; rw [run_unfold X38.main.eq_1]
  have hl3 := hl.1
  have := X38_loop (f := f) (g := g) hl hb hin 0 (by omega) (List.replicate l.length 0) (by simp) rfl
  simp (maxSteps := 2000000) only [go_sem, mk_gen (show l.length * 8 ≤ 100000000 by omega) (by decide), flat_zi, List.length_replicate, Nat.mul_one]
  exact this
@[go_sem] theorem X38_call {f g : SlF} {l : Rows} {by_ : List Int} (hl : RowsFit l) (hb : by_.length < 1000000) (hin : AllIn l by_) {Q : Post3} {k : List Item} {os : List AOper} {d : Option Nat} {e : Env} {σ : Sto} : CallK T Q k os d e σ true i_X38 [rowsA f l, ints g by_] ↔ Run T Q (.ops os :: k) (put e d (ints .lst (sortI l by_))) σ := X38_spec hl hb hin

end Go.Abs
/- Walks of chapter 42: columns joined, tables, odd values. -/
set_option linter.unusedSimpArgs false
set_option linter.unusedVariables false
namespace Go.Abs
open Go
attribute [local go_sem_proc] Nat.reduceLT Nat.reduceEqDiff Nat.reduceLeDiff Nat.reduceAdd Nat.reduceSub Nat.reduceMul Int.reduceLT Int.reduceLE Int.reduceEq Int.reduceNeg
attribute [local go_sem_proc ↓] reduceIte

abbrev objI (D : List Int) : AObj := .cells false (D.map fun n => .int .i64 n)
theorem capV_nils {σ : Sto} : capV .nils σ = some (.int .i64 0, σ) := rfl
theorem sliceV_nils {σ : Sto} {m : Nat} : sliceV m .nils none (some (.int .i64 0)) none σ = some (.nils, σ) := rfl
theorem appendzV_nils {σ : Sto} {n : Nat} (h0 : 0 < n) (hn : n ≤ 1000000) : appendzV 1 8 [.int .i64 0] .nils (.int .i64 (n : Int)) σ = some (.ref σ.length n 0 n 1, σ ++ [objI (List.replicate n 0)]) := by
 simp only [appendzV, Int.toNat_natCast]
 rw [if_pos ⟨by omega, by simp only [maxBytes]; omega, by decide⟩, if_neg (by omega), flat_zi, Nat.mul_one]
theorem sliceV_zero {σ : Sto} {o n len : Nat} {D : List Int} (hσ : σ[o]? = some (objI D)) (hD : D.length = n) (h0 : 0 < n) : sliceV 1 (.ref o n 0 len 1) none (some (.int .i64 0)) none σ = some (.ref o n 0 0 1, σ) := by
 have e : natOf (.int .i64 0) = some 0 := rfl
 simp only [sliceV, hσ, List.length_map, hD, bnd, e, Bool.false_and, Bool.false_eq_true, if_false]
 rw [if_pos ⟨trivial, trivial, by decide⟩, if_pos ⟨by omega, by omega⟩, if_neg (by omega)]

theorem X30_cw {n : Nat} (h0 : 0 < n) (hn : n ≤ 1000000) {σ : Sto} {R : Post} : Cw T false i_X30 [.nils, .int .i64 (n : Int)] [] σ R ↔ R (.ref σ.length n 0 0 1) (σ ++ [objI (List.replicate n 0)]) := by
 rw [cw_enter T_X30 (by simp), run_unfold X30.main.eq_1]
 have e : IntKind.i64.wrap ((n : Int) - 0) = n := by rw [wrap_i64 (by omega) (by omega)]; omega
 have e0 : IntKind.i64.wrap (0 - 0) = 0 := by decide
 have h1 : ¬ (n : Int) < 0 := by omega
 have h2 : (0 : Int) < n := by omega
 simp (maxSteps := 2000000) only [go_sem, h1, e0, e, h2, capV_nils, sliceV_nils, appendzV_nils h0 hn, sliceV_zero (σ := σ ++ [objI (List.replicate n 0)]) (o := σ.length) (D := List.replicate n 0) get_last (by simp) h0, run_unfold X30.c0.eq_1, run_unfold X30.c1.eq_1]

abbrev listsA (LL : List (SlF × List Int)) : AVal := sv 1 .lst (LL.map fun p => ints p.1 p.2)
def totL (LL : List (SlF × List Int)) : Nat := (LL.flatMap (·.2)).length
theorem totL_cons (p : SlF × List Int) (LL : List (SlF × List Int)) : totL (p :: LL) = p.2.length + totL LL := by simp [totL]

theorem appendV_in {σ : Sto} {o N m : Nat} {f : SlF} {x D : List Int} (hσ : σ[o]? = some (objI D)) (hD : D.length = N) (h : m + x.length ≤ N) (hp : m ≤ N) :
  appendV 1 8 (.ref o N 0 m 1) (ints f x) σ = some (.ref o N 0 (m + x.length) 1, σ.set o (objI (D.take m ++ x ++ D.drop (m + x.length)))) := by
 have hone : (x.map fun n => AVal.int .i64 n).all AVal.one = true := by rw [List.all_eq_true]; intro v hv; obtain ⟨n, _, rfl⟩ := List.mem_map.1 hv; rfl
 simp only [appendV, rowOf_ints, hσ, List.length_map, hD, Nat.mul_one, hone, Nat.zero_add]
 rw [if_pos ⟨trivial, by decide, trivial⟩, if_pos ⟨trivial, trivial⟩]
 by_cases h0 : x.length = 0
 ·have : x = [] := List.eq_nil_of_length_eq_zero h0
  subst this
  rw [if_pos h0]
  simp only [List.append_nil, List.length_nil, Nat.add_zero, List.take_append_drop, set_same_v hσ]
 ·rw [if_neg h0, if_pos h]
  simp only [overwrite, List.length_map, ← List.map_take, ← List.map_drop, ← List.map_append]

theorem X24_loop1 {LL : List (SlF × List Int)} {N : Nat} (hN : N ≤ 1000000) (hT : totL LL = N) (h3 : LL.length ≤ 1000) : ∀ i, i ≤ LL.length → ∀ (D : List Int) (m : Nat), D.length = N → D.take m = (LL.take i).flatMap (·.2) → m + totL (LL.drop i) = N →
  Run T (Res [.tmp 2] (ints .lst (LL.flatMap (·.2)))) (.inLoop X24.b1 :: X24.k1) (mkE 36 [(6, .ref 0 N 0 m 1), (25, listsA LL), (26, .int .i64 LL.length), (27, .int .i64 i)]) [objI D] := by
 refine up_ind ?_ fun i hi ih => ?_
 ·intro D m hD ht hm
  rw [run_round, run_unfold X24.b1.eq_1]
  rw [List.drop_eq_nil_of_le (Nat.le_refl _)] at hm
  have hm' : m = N := by simp [totL] at hm; exact hm
  subst hm'
  rw [List.take_of_length_le (by omega), List.take_of_length_le (Nat.le_refl _)] at ht
  have hs := snap_ints (n := 62) (o := 0) (σ := [objI D]) (c := D) rfl
  rw [hD] at hs
  simp (maxSteps := 2000000) only [go_sem, run_unfold X24.c0.eq_1, run_unfold X24.c1.eq_1, run_unfold X24.c2.eq_1, run_unfold X24.c3.eq_1, run_unfold X24.c4.eq_1, X24.k0, X24.k1, hs, ← ht]
 ·intro D m hD ht hm
  rw [run_round, run_unfold X24.b1.eq_1]
  rw [List.drop_eq_getElem_cons hi, totL_cons] at hm
  have ha := appendV_in (σ := [objI D]) (o := 0) (N := N) (m := m) (f := LL[i].1) (x := LL[i].2) rfl hD (by omega) (by omega)
  have hmt : (D.take m).length = m := by rw [List.length_take]; omega
  have ih' := ih (D.take m ++ LL[i].2 ++ D.drop (m + LL[i].2.length)) (m + LL[i].2.length) (by simp only [List.length_append, List.length_take, List.length_drop]; omega) (by
   rw [List.take_append_of_le_length (by simp only [List.length_append, hmt]; omega), List.take_of_length_le (by simp only [List.length_append, hmt]; omega), List.take_succ_eq_append_getElem hi, List.flatMap_append, ← ht]
   simp) (by omega)
  simp (maxSteps := 2000000) only [go_sem, hi, ha, wrap_succ (show i < 9223372036854775807 by omega)]
  exact ih'

theorem X24_loop0 {LL : List (SlF × List Int)} {N : Nat} (hN : N ≤ 1000000) (h0 : 0 < N) (hT : totL LL = N) (h3 : LL.length ≤ 1000) : ∀ i, i ≤ LL.length → ∀ (m : Nat), m + totL (LL.drop i) = N →
  Run T (Res [.tmp 2] (ints .lst (LL.flatMap (·.2)))) (.inLoop X24.b0 :: X24.k0) (mkE 36 [(0, listsA LL), (3, .int .i64 m), (9, listsA LL), (10, .int .i64 LL.length), (11, .int .i64 i)]) [] := by
 refine up_ind ?_ fun i hi ih => ?_
 ·intro m hm
  rw [run_round, run_unfold X24.b0.eq_1]
  rw [List.drop_eq_nil_of_le (Nat.le_refl _)] at hm
  have hm' : m = N := by simp [totL] at hm; exact hm
  subst hm'
  have := X24_loop1 hN hT h3 0 (by omega) (List.replicate m 0) 0 (by simp) (by simp) (by simp [hT])
  simp (maxSteps := 2000000) only [go_sem, run_unfold X24.c0.eq_1, run_unfold X24.c1.eq_1, run_unfold X24.c2.eq_1, run_unfold X24.c3.eq_1, run_unfold X24.c4.eq_1, X24.k0, X24.k1]
  unfold CallK
  rw [X30_cw h0 hN]
  simp (maxSteps := 2000000) only [go_sem, run_unfold X24.c0.eq_1, run_unfold X24.c1.eq_1, run_unfold X24.c2.eq_1, run_unfold X24.c3.eq_1, run_unfold X24.c4.eq_1, X24.k0, X24.k1]
  exact this
 ·intro m hm
  rw [run_round, run_unfold X24.b0.eq_1]
  rw [List.drop_eq_getElem_cons hi, totL_cons] at hm
  have ih' := ih (m + LL[i].2.length) (by omega)
  have hn : ¬ ((m + LL[i].2.length : Nat) : Int) < 0 := by omega
  simp (maxSteps := 2000000) only [go_sem, hi, run_unfold X24.c0.eq_1, run_unfold X24.c1.eq_1, run_unfold X24.c2.eq_1, run_unfold X24.c3.eq_1, run_unfold X24.c4.eq_1, X24.k0, X24.k1, iadd (show m + LL[i].2.length < 9223372036854775808 by omega), hn, wrap_succ (show i < 9223372036854775807 by omega)]
  exact ih'

theorem X24_spec {LL : List (SlF × List Int)} (hN : totL LL ≤ 1000000) (h0 : 0 < totL LL) (h3 : LL.length ≤ 1000) {lv : List Nat} {σ : Sto} {R : Post} : Cw T true i_X24 [listsA LL] lv σ R ↔ R (ints .lst (LL.flatMap (·.2))) σ := by
 refine cw_intro T_X24 (by simp only [go_sem]) (by simp) ?_; rw [run_unfold X24.main.eq_1]
 have := X24_loop0 hN h0 rfl h3 0 (by omega) 0 (by simp)
 simp (maxSteps := 2000000) only [go_sem]
 exact this
@[go_sem] theorem X24_call {LL : List (SlF × List Int)} (hN : totL LL ≤ 1000000) (h0 : 0 < totL LL) (h3 : LL.length ≤ 1000) {Q : Post3} {k : List Item} {os : List AOper} {d : Option Nat} {e : Env} {σ : Sto} : CallK T Q k os d e σ true i_X24 [listsA LL] ↔ Run T Q (.ops os :: k) (put e d (ints .lst (LL.flatMap (·.2)))) σ := X24_spec hN h0 h3


def wid (l : Rows) : Nat := match l with
 | [] => 0
 | p :: _ => p.2.length
def tab (l : Rows) (cols : List Int) : Bool := l.all (fun p => decide (p.2.length = wid l)) && (l.isEmpty || cols.all fun c => decide (0 ≤ c) && decide (c < wid l))
theorem wid_get {l : Rows} (h : 0 < l.length) : wid l = l[0].2.length := by cases l with
 | nil => simp at h
 | cons p l => rfl
theorem iaddrV_z {α : Type} {σ : Sto} {k : Nat} {f : SlF} {g : α → AVal} {l : List α} {kd : IntKind} (h : 0 < l.length) : iaddrV k (sv k f (l.map g)) (.int kd 0) σ = some (.fptr (g l[0]).cells, σ) := iaddrV_map (i := 0) h

theorem X41_loop1 {f g : SlF} {l : Rows} {cols : List Int} (hl : RowsFit l) (hc : Fits cols) : ∀ i, i ≤ cols.length →
  Run T (Res [.tmp 4] (.bool (l.isEmpty || (cols.drop i).all fun c => decide (0 ≤ c) && decide (c < wid l)))) (.inLoop X41.b1 :: X41.k1) (mkE 45 [(0, rowsA f l), (23, ints g cols), (24, .int .i64 cols.length), (25, .int .i64 i)]) [] := by
 refine up_ind ?_ fun i hi ih => ?_
 ·rw [run_round, run_unfold X41.b1.eq_1]
  simp (maxSteps := 2000000) only [go_sem, run_unfold X41.c0.eq_1, run_unfold X41.c1.eq_1, run_unfold X41.c2.eq_1, run_unfold X41.c3.eq_1, X41.k0, X41.k1, List.drop_length]
 ·rw [run_round, run_unfold X41.b1.eq_1]
  rw [List.drop_eq_getElem_cons hi]
  by_cases h : 0 < l.length
  ·have he : l.isEmpty = false := by cases l with
    | nil => simp at h
    | cons _ _ => rfl
   have hz := @iaddrV_z _ ([] : Sto) 1 f (fun p : SlF × List Val => sv 3 p.1 (p.2.map fun v => .agg [.int .i64 v.k, .int .i64 v.i, .str v.s])) l .i64 h
   rw [wid_get h] at ih ⊢
   rw [he] at ih ⊢
   simp only [Bool.false_or] at ih ⊢
   have h' : (0 : Int) < l.length := by omega
   by_cases h1 : cols[i] < 0
   ·simp (maxSteps := 2000000) only [go_sem, hi, h', h1, Int.not_le.2 h1]
   ·by_cases h2 : (l[0].2.length : Int) ≤ cols[i]
    ·simp (maxSteps := 2000000) only [go_sem, hi, h', h1, hz, h2, Int.not_lt.2 h2]
    ·simp (maxSteps := 2000000) only [go_sem, hi, h', h1, Int.not_lt.1 h1, hz, h2, Int.not_le.1 h2, wrap_succ (show i < 9223372036854775807 by omega)]
     exact ih
  ·have he : l.isEmpty = true := by cases l with
    | nil => rfl
    | cons _ _ => simp at h
   rw [he] at ih ⊢
   simp only [Bool.true_or] at ih ⊢
   have h' : ¬ (0 : Int) < l.length := by omega
   simp (maxSteps := 2000000) only [go_sem, hi, h', wrap_succ (show i < 9223372036854775807 by omega)]
   exact ih

theorem X41_loop0 {f g : SlF} {l : Rows} {cols : List Int} (hl : RowsFit l) (hc : Fits cols) : ∀ i, i ≤ l.length →
  Run T (Res [.tmp 4] (.bool ((l.drop i).all (fun p => decide (p.2.length = wid l)) && (l.isEmpty || cols.all fun c => decide (0 ≤ c) && decide (c < wid l))))) (.inLoop X41.b0 :: X41.k0) (mkE 45 [(0, rowsA f l), (1, ints g cols), (9, rowsA f l), (10, .int .i64 l.length), (11, .int .i64 i)]) [] := by
 refine up_ind ?_ fun i hi ih => ?_
 ·rw [run_round, run_unfold X41.b0.eq_1]
  have := X41_loop1 (f := f) (g := g) hl hc 0 (by omega)
  rw [List.drop_zero] at this
  simp (maxSteps := 2000000) only [go_sem, run_unfold X41.c0.eq_1, run_unfold X41.c1.eq_1, run_unfold X41.c2.eq_1, run_unfold X41.c3.eq_1, X41.k0, X41.k1, List.drop_length]
  exact this
 ·rw [run_round, run_unfold X41.b0.eq_1]
  rw [List.drop_eq_getElem_cons hi]
  have h : 0 < l.length := by omega
  have hz := @iaddrV_z _ ([] : Sto) 1 f (fun p : SlF × List Val => sv 3 p.1 (p.2.map fun v => .agg [.int .i64 v.k, .int .i64 v.i, .str v.s])) l .i64 h
  have hl3 := hl.1
  simp only [List.all_cons, wid_get h] at ih ⊢
  by_cases h1 : l[i].2.length = l[0].2.length
  ·simp (maxSteps := 2000000) only [go_sem, hi, hz, h1, wrap_succ (show i < 9223372036854775807 by omega)]
   exact ih
  ·have h1' : ¬ (l[i].2.length : Int) = l[0].2.length := by omega
   simp (maxSteps := 2000000) only [go_sem, hi, hz, h1, h1']

theorem X41_spec {f g : SlF} {l : Rows} {cols : List Int} (hl : RowsFit l) (hc : Fits cols) {lv : List Nat} {σ : Sto} {R : Post} : Cw T true i_X41 [rowsA f l, ints g cols] lv σ R ↔ R (.bool (tab l cols)) σ := by
 refine cw_intro T_X41 (by simp only [go_sem]) (by simp) ?_; rw [run_unfold X41.main.eq_1]
 have := X41_loop0 (f := f) (g := g) hl hc 0 (by omega)
 rw [List.drop_zero] at this
 simp (maxSteps := 2000000) only [go_sem]
 exact this
@[go_sem] theorem X41_call {f g : SlF} {l : Rows} {cols : List Int} (hl : RowsFit l) (hc : Fits cols) {Q : Post3} {k : List Item} {os : List AOper} {d : Option Nat} {e : Env} {σ : Sto} : CallK T Q k os d e σ true i_X41 [rowsA f l, ints g cols] ↔ Run T Q (.ops os :: k) (put e d (.bool (tab l cols))) σ := X41_spec hl hc

end Go.Abs
/- Walks of chapter 42: orders with errors, odd values, partitions. -/
set_option linter.unusedSimpArgs false
set_option linter.unusedVariables false
namespace Go.Abs
open Go
attribute [local go_sem_proc] Nat.reduceLT Nat.reduceEqDiff Nat.reduceLeDiff Nat.reduceAdd Nat.reduceSub Nat.reduceMul Int.reduceLT Int.reduceLE Int.reduceEq Int.reduceNeg
attribute [local go_sem_proc ↓] reduceIte

theorem tab_in {l : Rows} {cols : List Int} (h : tab l cols = true) : AllIn l cols ∧ ∀ p ∈ l, p.2.length = wid l := by
 simp only [tab, Bool.and_eq_true, List.all_eq_true, decide_eq_true_eq, Bool.or_eq_true] at h
 obtain ⟨h1, h2⟩ := h
 refine ⟨fun p hp c hc => ?_, h1⟩
 rcases h2 with h2 | h2
 ·rw [List.isEmpty_iff] at h2; subst h2; simp at hp
 ·rw [h1 p hp]; exact h2 c hc
theorem tab_sub {l : Rows} {a b : List Int} (hs : ∀ c ∈ a, c ∈ b) (h : tab l b = true) : tab l a = true := by
 simp only [tab, Bool.and_eq_true, List.all_eq_true, decide_eq_true_eq, Bool.or_eq_true] at h ⊢
 exact ⟨h.1, h.2.imp id fun h2 c hc => h2 c (hs c hc)⟩

def orderI (l : Rows) (by_ : List Int) : List Int × Int := if tab l by_ then (sortI l by_, 0) else ([], 1)
def orderF (l : Rows) (by_ : List Int) : SlF := if tab l by_ then .lst else .nil
theorem X44_spec {f g : SlF} {l : Rows} {by_ : List Int} (hl : RowsFit l) (hb : by_.length < 1000000) {lv : List Nat} {σ : Sto} {R : Post} : Cw T true i_X44 [rowsA f l, ints g by_] lv σ R ↔ R (.tup [ints (orderF l by_) (orderI l by_).1, .int .i64 (orderI l by_).2]) σ := by
 refine cw_intro T_X44 (by simp only [go_sem]) (by simp) ?_; rw [run_unfold X44.main.eq_1]
 have hl3 := hl.1
 have h1 : ¬ (4096 : Int) < l.length := by omega
 unfold orderI orderF
 cases ht : tab l by_
 ·simp (maxSteps := 2000000) only [go_sem, X41_call hl (show Fits by_ by unfold Fits; omega), ht]
  rfl
 ·simp (maxSteps := 2000000) only [go_sem, X41_call hl (show Fits by_ by unfold Fits; omega), ht, h1, X38_call hl hb (tab_in ht).1]
@[go_sem] theorem X44_call {f g : SlF} {l : Rows} {by_ : List Int} (hl : RowsFit l) (hb : by_.length < 1000000) {Q : Post3} {k : List Item} {os : List AOper} {d : Option Nat} {e : Env} {σ : Sto} : CallK T Q k os d e σ true i_X44 [rowsA f l, ints g by_] ↔ Run T Q (.ops os :: k) (put e d (.tup [ints (orderF l by_) (orderI l by_).1, .int .i64 (orderI l by_).2])) σ := X44_spec hl hb


abbrev gotA (fl : SlF) (L : List Val) (fi : SlF) (I : List Int) (fr : SlF) (R : Rows) (e : Int) : AVal := .agg [rowA fl L, ints fi I, rowsA fr R, .int .i64 e]
theorem X56_spec {f g : SlF} {l : Rows} {by_ : List Int} (hl : RowsFit l) (hb : by_.length < 1000000) {lv : List Nat} {σ : Sto} {R : Post} : Cw T true i_X56 [rowsA f l, ints g by_] lv σ R ↔ R (gotA .nil [] (orderF l by_) (orderI l by_).1 .nil [] (orderI l by_).2) σ := by
 refine cw_intro T_X56 (by simp only [go_sem]) (by simp) ?_; rw [run_unfold X56.main.eq_1]
 simp (maxSteps := 2000000) only [go_sem, X44_call hl hb]
 rfl
@[go_sem] theorem X56_call {f g : SlF} {l : Rows} {by_ : List Int} (hl : RowsFit l) (hb : by_.length < 1000000) {Q : Post3} {k : List Item} {os : List AOper} {d : Option Nat} {e : Env} {σ : Sto} : CallK T Q k os d e σ true i_X56 [rowsA f l, ints g by_] ↔ Run T Q (.ops os :: k) (put e d (gotA .nil [] (orderF l by_) (orderI l by_).1 .nil [] (orderI l by_).2)) σ := X56_spec hl hb


theorem iaddrV_int' {k : Nat} {f : SlF} {α : Type} {g : α → AVal} {l : List α} {kd : IntKind} {i : Int} {σ : Sto} (h : 0 ≤ i ∧ i < l.length) : iaddrV k (sv k f (l.map g)) (.int kd i) σ = some (.fptr (g (l[i.toNat]'(by omega))).cells, σ) := iaddrV_int h.1 (by omega)
def colN (r : List Val) (c : Int) : Val := r.getD c.toNat ⟨0, 0, ⟨#[]⟩⟩
theorem colN_get {r : List Val} {c : Int} (h : 0 ≤ c ∧ c < r.length) : r[c.toNat]'(by omega) = colN r c := by
 unfold colN
 rw [List.getD_eq_getElem?_getD, List.getElem?_eq_getElem (by omega)]; rfl
def oddC (c : Int) (r : List Val) : Bool := !decide ((colN r c).k = 0) && !decide ((colN r c).k = 2)

abbrev winC (kd c : Int) (fb : SlF) (b : List Int) (fo : SlF) (o : List Int) : List AVal := [.int .i64 kd, .int .i64 c, ints fb b, ints fo o]

theorem X28_spec {f : SlF} {r : List Val} {kd c : Int} {fb fo : SlF} {b o : List Int} (h : 0 ≤ c ∧ c < r.length) {lv : List Nat} {σ : Sto} {R : Post} : Cw T true i_X28 [rowA f r, .fptr (winC kd c fb b fo o)] lv σ R ↔ R (.bool (oddC c r)) σ := by
 refine cw_intro T_X28 (by simp only [go_sem]) (by simp) ?_; rw [run_unfold X28.main.eq_1]
 unfold oddC
 have hc := colN_get h
 have ha := @iaddrV_int' 3 f Val (fun v => .agg [.int .i64 v.k, .int .i64 v.i, .str v.s]) r .i64 c ([] : Sto) h
 rw [hc] at ha
 by_cases h0 : (colN r c).k = 0
 ·simp (maxSteps := 2000000) only [go_sem, ha, h0]
 ·simp (maxSteps := 2000000) only [go_sem, ha, h0]
@[go_sem] theorem X28_call {f : SlF} {r : List Val} {kd c : Int} {fb fo : SlF} {b o : List Int} (h : 0 ≤ c ∧ c < r.length) {Q : Post3} {k : List Item} {os : List AOper} {d : Option Nat} {e : Env} {σ : Sto} : CallK T Q k os d e σ true i_X28 [rowA f r, .fptr (winC kd c fb b fo o)] ↔ Run T Q (.ops os :: k) (put e d (.bool (oddC c r))) σ := X28_spec h


theorem X15_loop {f : SlF} {l : Rows} (hl : RowsFit l) {g : FuncId} {fs cs : List AVal} {p : List Val → Bool} (hg : ∀ x ∈ l, ∀ {lv : List Nat} {σ : Sto} {R : Post}, Cw T true g (fs ++ [sv 3 x.1 (x.2.map fun v => .agg [.int .i64 v.k, .int .i64 v.i, .str v.s])] ++ cs) lv σ R ↔ R (.bool (p x.2)) σ) : ∀ i, i ≤ l.length →
  Run T (Res [.tmp 4] (.int .i64 (match (l.drop i).findIdx? (fun x => p x.2) with | some j => (i + j : Nat) | none => -1))) (.inLoop X15.b0 :: X15.k0) (mkE 19 [(0, rowsA f l), (1, .clo (.func g) fs cs), (7, .int .i64 l.length), (8, .int .i64 i)]) [] := by
 have hl3 := hl.1
 refine up_ind ?_ fun i hi ih => ?_
 ·rw [run_round, run_unfold X15.b0.eq_1]
  simp (maxSteps := 2000000) only [go_sem, Nat.lt_irrefl, run_unfold X15.c0.eq_1, run_unfold X15.c1.eq_1, X15.k0, List.drop_length, List.findIdx?_nil]
 ·rw [run_round, run_unfold X15.b0.eq_1]
  rw [List.drop_eq_getElem_cons hi]
  simp (maxSteps := 2000000) only [go_sem, hi, List.findIdx?_cons]
  simp only [← List.append_assoc, callK_of (hg _ (List.getElem_mem hi))]
  simp (maxSteps := 2000000) only [go_sem]
  cases hp : p l[i].2
  ·simp (maxSteps := 2000000) only [go_sem, wrap_succ (show i < 9223372036854775807 by omega)]
   refine Eq.mp (congrArg (fun v => Run T (Res [.tmp 4] (.int .i64 v)) _ _ _) ?_) ih
   cases (l.drop (i + 1)).findIdx? (fun x => p x.2) with
   | none => rfl
   | some j => simp; omega
  ·simp (maxSteps := 2000000) only [go_sem, Nat.add_zero]

def idxOf {α : Type} (p : α → Bool) (l : List α) : Int := match l.findIdx? p with
 | some i => i
 | none => -1
theorem any_idx {α : Type} (p : α → Bool) (l : List α) : decide (0 ≤ idxOf p l) = l.any p := by
 unfold idxOf
 cases h : l.findIdx? p with
 | none =>
  rw [List.findIdx?_eq_none_iff] at h
  have : l.any p = false := by rw [List.any_eq_false]; intro x hx; simp [h x hx]
  rw [this]; rfl
 | some i =>
  have : l.any p = true := by
   rw [List.any_eq_true]
   obtain ⟨hi, hp, _⟩ := List.findIdx?_eq_some_iff_getElem.1 h
   exact ⟨l[i], List.getElem_mem hi, hp⟩
  rw [this]; simp
theorem X11_spec {f : SlF} {l : Rows} (hl : RowsFit l) {g : FuncId} {fs cs : List AVal} {p : List Val → Bool} (hg : ∀ x ∈ l, ∀ {lv : List Nat} {σ : Sto} {R : Post}, Cw T true g (fs ++ [sv 3 x.1 (x.2.map fun v => .agg [.int .i64 v.k, .int .i64 v.i, .str v.s])] ++ cs) lv σ R ↔ R (.bool (p x.2)) σ)
  (h1 : AVal.pures fs = true) (h2 : AVal.pures cs = true) {lv : List Nat} {σ : Sto} {R : Post} : Cw T true i_X11 [rowsA f l, .clo (.func g) fs cs] lv σ R ↔ R (.bool (l.any fun x => p x.2)) σ := by
 have key : ∀ {lv : List Nat} {σ : Sto} {R : Post}, Cw T true i_X15 [rowsA f l, .clo (.func g) fs cs] lv σ R ↔ R (.int .i64 (idxOf (fun x => p x.2) l)) σ := by
  intro lv σ R
  refine cw_intro T_X15 (by simp (maxSteps := 2000000) only [go_sem, h1, h2]) (by simp) ?_
  rw [run_unfold X15.main.eq_1]
  simp (maxSteps := 2000000) only [go_sem]
  have := X15_loop (f := f) hl hg 0 (by omega)
  simp only [List.drop_zero, Nat.zero_add] at this
  exact this
 refine cw_intro T_X11 (by simp (maxSteps := 2000000) only [go_sem, h1, h2]) (by simp) ?_
 rw [run_unfold X11.main.eq_1]
 simp (maxSteps := 2000000) only [go_sem, callK_of key, any_idx]

def partFold (key : Int → List Val) : Int → Option (List Val) → List Int → List Int → List Int
 | _, _, [], D => D
 | n, prev, i :: r, D =>
  let n' := if prev.getD (key i) = key i then n else n + 1
  partFold key n' (some (key i)) r (D.set i.toNat n')
abbrev keyI (l : Rows) (by_ : List Int) (i : Int) : List Val := pickC (rowN l i) by_
def partI (l : Rows) (by_ : List Int) : List Int := partFold (keyI l by_) 0 none (sortI l by_) (List.replicate l.length 0)
theorem sortI_in {l : Rows} {by_ : List Int} {x : Int} (h : x ∈ sortI l by_) : InN l.length x := upN_mem ((isort_mem _).1 h)
theorem pickC_len (r : List Val) (by_ : List Int) : (pickC r by_).length = by_.length := by simp [pickC]
theorem rowN_int {l : Rows} {x : Int} (h : 0 ≤ x ∧ x < l.length) : (l[x.toNat]'(by omega)).2 = rowN l x := by
 unfold rowN
 rw [List.getD_eq_getElem?_getD, List.getElem?_eq_getElem (by omega)]; rfl
theorem set_ints {D : List Int} {i : Nat} {x : Int} (h : i < D.length) : (D.map fun n => AVal.int .i64 n).take i ++ [AVal.int .i64 x] ++ (D.map fun n => AVal.int .i64 n).drop (i + 1) = (D.set i x).map fun n => AVal.int .i64 n := by
 rw [List.set_eq_take_append_cons_drop, if_pos h]
 simp
@[go_sem] theorem iaddrV_refI {o gen off len k : Nat} {kd : IntKind} {i : Int} {σ : Sto} (h : 0 ≤ i) : iaddrV k (.ref o gen off len k) (.int kd i) σ = match σ[o]? with
   | some (.cells _ cs) => if i.toNat < len ∧ cs.length = gen then some (.ptr o gen (off + i.toNat * k), σ) else none
   | _ => none := by
 obtain ⟨n, rfl⟩ := Int.eq_ofNat_of_zero_le h
 exact iaddrV_ref

theorem X26_loop {f g : SlF} {l : Rows} {by_ : List Int} (hl : RowsFit l) (hb : by_.length < 1000000) (hin : AllIn l by_) : ∀ i, i ≤ (sortI l by_).length → ∀ (D : List Int) (n : Int) (prev : Option (List Val)), D.length = l.length → 0 ≤ n → n ≤ i → (∀ h : 0 < i, ∀ hi : i ≤ (sortI l by_).length, prev = some (keyI l by_ ((sortI l by_)[i - 1]'(by omega)))) → (i = 0 → prev = none) →
  Run T (Res [.tmp 4] (ints .lst (partFold (keyI l by_) n prev ((sortI l by_).drop i) D))) (.inLoop X26.b0 :: X26.k0) (mkE 53 [(0, rowsA f l), (1, ints g by_), (5, .ref 0 l.length 0 l.length 1), (6, .int .i64 n), (7, ints .lst (sortI l by_)), (16, ints .lst (sortI l by_)), (17, .int .i64 (sortI l by_).length), (18, .int .i64 i)]) [objI D] := by
 have hl3 := hl.1
 have hsl := sortI_len l by_
 refine up_ind ?_ fun i hi ih => ?_
 ·intro D n prev hD h0 hn hp hp0
  rw [run_round, run_unfold X26.b0.eq_1]
  have hs := snap_ints (n := 62) (o := 0) (σ := [objI D]) (c := D) rfl
  rw [hD] at hs
  simp (maxSteps := 2000000) only [go_sem, run_unfold X26.c0.eq_1, run_unfold X26.c1.eq_1, run_unfold X26.c2.eq_1, run_unfold X26.c3.eq_1, X26.k0, List.drop_length, partFold, hs]
 ·intro D n prev hD h0 hn hp hp0
  rw [run_round, run_unfold X26.b0.eq_1]
  rw [List.drop_eq_getElem_cons hi]
  have hx := sortI_in (List.getElem_mem hi)
  generalize hxe : (sortI l by_)[i] = x at hx
  have hxD : x.toNat < D.length := by omega
  have hxl : x.toNat < l.length := by omega
  have hxl1 : x.toNat + 1 ≤ l.length := by omega
  have hov := fun m : Int => set_ints (x := m) hxD
  have hax := @iaddrV_int' 1 f _ (fun p : SlF × List Val => sv 3 p.1 (p.2.map fun v => .agg [.int .i64 v.k, .int .i64 v.i, .str v.s])) l .i64 x [objI D] hx
  have hwn : IntKind.i64.wrap (n + 1) = n + 1 := wrap_i64 (by omega) (by omega)
  have hinx := hin _ (List.getElem_mem hxl)
  rw [rowN_int hx] at hinx
  by_cases hpos' : 0 < i
  case neg =>
   have hi0 : i = 0 := by omega
   obtain rfl := hp0 hi0
   have hpos : ¬ (0 : Int) < (i : Int) := by omega
   have ih' := ih (D.set x.toNat n) n (some (keyI l by_ x)) (by simpa using hD) h0 (by omega) (fun _ _ => by simp only [Nat.add_sub_cancel]; rw [hxe]) (fun h => absurd h (by omega))
   simp (maxSteps := 2000000) only [go_sem, hi, hxe, hx.1, hxl, hxl1, hD, Nat.mul_one, Nat.zero_add, hov, partFold, Option.getD_none, hpos, run_unfold X26.c0.eq_1, run_unfold X26.c1.eq_1, run_unfold X26.c2.eq_1, run_unfold X26.c3.eq_1, X26.k0, wrap_succ (show i < 9223372036854775807 by omega)]
   exact ih'
  case pos =>
   have hj : i - 1 < (sortI l by_).length := by omega
   have hpe := hp hpos' (by omega)
   have hy := sortI_in (List.getElem_mem hj)
   generalize hye : (sortI l by_)[i - 1] = y at hy hpe
   subst hpe
   have hay := @iaddrV_int' 1 f _ (fun p : SlF × List Val => sv 3 p.1 (p.2.map fun v => .agg [.int .i64 v.k, .int .i64 v.i, .str v.s])) l .i64 y [objI D] hy
   have hyl : y.toNat < l.length := by omega
   have hiny := hin _ (List.getElem_mem hyl)
   rw [rowN_int hy] at hiny
   have hpos : (0 : Int) < (i : Int) := by omega
   have hpred : IntKind.i64.wrap ((i : Int) - 1) = ((i - 1 : Nat) : Int) := by rw [wrap_i64 (by omega) (by omega)]; omega
   have hfx : Fits (keyI l by_ x) := by unfold Fits; rw [pickC_len]; omega
   have hfy : Fits (keyI l by_ y) := by unfold Fits; rw [pickC_len]; omega
   have ih' := fun (m : Int) (h1 : 0 ≤ m) (h2 : m ≤ (i + 1 : Nat)) => ih (D.set x.toNat m) m (some (keyI l by_ x)) (by simpa using hD) h1 h2 (fun _ _ => by simp only [Nat.add_sub_cancel]; rw [hxe]) (fun h => absurd h (by omega))
   by_cases hk : keyI l by_ y = keyI l by_ x
   ·have hkd : decide (keyI l by_ y = keyI l by_ x) = true := by simp [hk]
    simp (maxSteps := 2000000) only [go_sem, hi, hxe, hye, hpos, hpred, hj, hay, hax, rowN_int hx, rowN_int hy, X37_call hb hinx, X37_call hb hiny, X23_call hfy hfx, hkd, if_pos hk, hx.1, hxl, hxl1, hD, Nat.mul_one, Nat.zero_add, hov, partFold, Option.getD_some, run_unfold X26.c0.eq_1, run_unfold X26.c1.eq_1, run_unfold X26.c2.eq_1, run_unfold X26.c3.eq_1, X26.k0, wrap_succ (show i < 9223372036854775807 by omega)]
    exact ih' n h0 (by omega)
   ·have hkd : decide (keyI l by_ y = keyI l by_ x) = false := by simp [hk]
    simp (maxSteps := 2000000) only [go_sem, hi, hxe, hye, hpos, hpred, hj, hay, hax, rowN_int hx, rowN_int hy, X37_call hb hinx, X37_call hb hiny, X23_call hfy hfx, hkd, if_neg hk, hx.1, hxl, hxl1, hD, Nat.mul_one, Nat.zero_add, hov, partFold, Option.getD_some, hwn, run_unfold X26.c0.eq_1, run_unfold X26.c1.eq_1, run_unfold X26.c2.eq_1, run_unfold X26.c3.eq_1, X26.k0, wrap_succ (show i < 9223372036854775807 by omega)]
    exact ih' (n + 1) (by omega) (by omega)

theorem X26_spec {f g : SlF} {l : Rows} {by_ : List Int} (hl : RowsFit l) (hb : by_.length < 1000000) (hin : AllIn l by_) {lv : List Nat} {σ : Sto} {R : Post} : Cw T true i_X26 [rowsA f l, ints g by_] lv σ R ↔ R (ints .lst (partI l by_)) σ := by
 refine cw_intro T_X26 (by simp only [go_sem]) (by simp) ?_; rw [run_unfold X26.main.eq_1]
 have hl3 := hl.1
 have := X26_loop (f := f) (g := g) hl hb hin 0 (by omega) (List.replicate l.length 0) 0 none (by simp) (by omega) (by omega) (fun h => absurd h (by omega)) (fun _ => rfl)
 simp only [List.drop_zero] at this
 simp (maxSteps := 2000000) only [go_sem, mk_gen (show l.length * 8 ≤ 100000000 by omega) (by decide), flat_zi, List.length_replicate, Nat.mul_one, X38_call hl hb hin]
 exact this
@[go_sem] theorem X26_call {f g : SlF} {l : Rows} {by_ : List Int} (hl : RowsFit l) (hb : by_.length < 1000000) (hin : AllIn l by_) {Q : Post3} {k : List Item} {os : List AOper} {d : Option Nat} {e : Env} {σ : Sto} : CallK T Q k os d e σ true i_X26 [rowsA f l, ints g by_] ↔ Run T Q (.ops os :: k) (put e d (ints .lst (partI l by_))) σ := X26_spec hl hb hin

end Go.Abs
/- Walks of chapter 42: the state of a partition. -/
set_option linter.unusedSimpArgs false
set_option linter.unusedVariables false
namespace Go.Abs
open Go
attribute [local go_sem_proc] Nat.reduceLT Nat.reduceEqDiff Nat.reduceLeDiff Nat.reduceAdd Nat.reduceSub Nat.reduceMul Int.reduceLT Int.reduceLE Int.reduceEq Int.reduceNeg
attribute [local go_sem_proc ↓] reduceIte

def lastA : Option (SlF × List Val) → AVal
 | none => .nils
 | some p => rowA p.1 p.2
theorem lastA_pure {o : Option (SlF × List Val)} {p : Nat → Bool} : (lastA o).names p = true := by cases o <;> first | rfl | exact sv_pure
theorem lastA_one {o : Option (SlF × List Val)} : (lastA o).one = true := by cases o <;> first | rfl | exact sv_one
theorem lastA_fits {o : Option (SlF × List Val)} : (lastA o).fits 1 = true := by cases o <;> first | rfl | exact sv_fits
theorem lastA_cells {o : Option (SlF × List Val)} : (lastA o).cells = [lastA o] := by cases o <;> first | rfl | exact sv_cells
theorem lastA_und {o : Option (SlF × List Val)} : (lastA o).isUnd = false := by cases o <;> first | rfl | exact sv_isUnd
attribute [go_sem] lastA_pure lastA_one lastA_fits lastA_cells lastA_und
structure St where
 n : Int
 rank : Int
 last : Option (SlF × List Val)
 sum : Val
abbrev stC (n rank : Int) (last : AVal) (k i : Int) (s : ByteArray) : AObj := .cells false [.int .i64 n, .int .i64 rank, last, .int .i64 k, .int .i64 i, .str s]
abbrev stO (s : St) : AObj := stC s.n s.rank (lastA s.last) s.sum.k s.sum.i s.sum.s

def numV (n : Int) : Val := ⟨2, IntKind.i64.wrap (n * 1000000), ⟨#[]⟩⟩
def zV : Val := ⟨0, 0, ⟨#[]⟩⟩
def isPeer (ord : List Int) (last : Option (SlF × List Val)) (r : List Val) : Bool := match last with
 | none => false
 | some p => decide (pickC p.2 ord = pickC r ord)
def lagV (last : Option (SlF × List Val)) (c : Int) : Val := match last with
 | none => zV
 | some p => colN p.2 c
def nextS (kd c : Int) (ord : List Int) (s : St) (fr : SlF × List Val) : St × Val × Bool :=
 let n := IntKind.i64.wrap (s.n + 1)
 let rank := if isPeer ord s.last fr.2 = true then s.rank else n
 let s1 : St := ⟨n, rank, some fr, s.sum⟩
 if kd = 1 then (s1, numV n, true) else if kd = 2 then (s1, numV rank, true)
 else if kd = 4 then (s1, lagV s.last c, true)
 else if (colN fr.2 c).k = 2 then
  (if 8000000000000000000 < (colN fr.2 c).i ∨ (colN fr.2 c).i < -8000000000000000000 then (s1, zV, false)
   else (⟨n, rank, some fr, ⟨2, IntKind.i64.wrap (s.sum.i + (colN fr.2 c).i), s.sum.s⟩⟩, ⟨2, IntKind.i64.wrap (s.sum.i + (colN fr.2 c).i), s.sum.s⟩,
    decide (-4000000000000000000 ≤ IntKind.i64.wrap (s.sum.i + (colN fr.2 c).i)) && decide (IntKind.i64.wrap (s.sum.i + (colN fr.2 c).i) ≤ 4000000000000000000)))
 else (s1, s.sum, decide (-4000000000000000000 ≤ s.sum.i) && decide (s.sum.i ≤ 4000000000000000000))

theorem X19_spec {n : Int} {lv : List Nat} {σ : Sto} {R : Post} : Cw T true i_X19 [.int .i64 n] lv σ R ↔ R (vA (numV n)) σ := by
 refine cw_intro T_X19 (by simp only [go_sem]) (by simp) ?_; rw [run_unfold X19.main.eq_1]
 simp (maxSteps := 2000000) only [go_sem, numV]
@[go_sem] theorem X19_call {n : Int} {Q : Post3} {k : List Item} {os : List AOper} {d : Option Nat} {e : Env} {σ : Sto} : CallK T Q k os d e σ true i_X19 [.int .i64 n] ↔ Run T Q (.ops os :: k) (put e d (vA (numV n))) σ := X19_spec


section
variable {σ : Sto} {o : Nat}
theorem F1 (h : o < σ.length) (X : AObj) (l : Sto) : (σ.set o X ++ l)[o]? = some X := by
 rw [List.getElem?_append_left (by simpa using h), List.getElem?_set_self h]
theorem F2 (X : AObj) (l : Sto) (k : Nat) : (σ.set o X ++ l)[σ.length + k]? = l[k]? := by
 rw [List.getElem?_append_right (by simp), List.length_set, Nat.add_sub_cancel_left]
theorem F2z (X : AObj) (l : Sto) : (σ.set o X ++ l)[σ.length]? = l[0]? := F2 X l 0
theorem F3 (h : o < σ.length) (X Y : AObj) (l : Sto) : (σ.set o X ++ l).set o Y = σ.set o Y ++ l := by
 rw [List.set_append_left _ _ (by simpa using h), List.set_set]
theorem F4 (X : AObj) (l : Sto) (k : Nat) (Y : AObj) : (σ.set o X ++ l).set (σ.length + k) Y = σ.set o X ++ l.set k Y := by
 rw [List.set_append_right _ _ (by simp), List.length_set, Nat.add_sub_cancel_left]
theorem F4z (X : AObj) (l : Sto) (Y : AObj) : (σ.set o X ++ l).set σ.length Y = σ.set o X ++ l.set 0 Y := F4 X l 0 Y
theorem F5 (X : AObj) (l : Sto) : (σ.set o X ++ l).length = σ.length + l.length := by simp
theorem F6 (X : AObj) (l l' : Sto) : (σ.set o X ++ l) ++ l' = σ.set o X ++ (l ++ l') := List.append_assoc ..
theorem F7 (X : AObj) (l : Sto) : (σ.set o X ++ l).take σ.length = σ.set o X := by
 rw [List.take_append_of_le_length (by simp), List.take_of_length_le (by simp)]
theorem F8 {p : AObj → Bool} (h : σ.all p = true) {X : AObj} (hX : p X = true) : (σ.set o X).all p = true := by
 rw [List.all_eq_true] at h ⊢
 intro x hx
 rcases List.mem_or_eq_of_mem_set hx with h1 | h1
 ·exact h x h1
 ·rw [h1]; exact hX
end

@[go_sem] theorem resultsA_ct {n t t' m : Nat} {g : Bool} {L : List (Nat × AVal)} {σ : Sto} : resultsA [.cell t g m, .tmp t'] (mkE n L) σ = (cellV g m (if t < n then look L t else AVal.und) σ).map fun u => .tup [u, if t' < n then look L t' else .und] := by
 have e : resA (mkE n L) σ (.cell t g m) = cellV g m (if t < n then look L t else AVal.und) σ := by simp only [resA, mkE_getD]; rfl
 have e2 : resA (mkE n L) σ (.tmp t') = some (if t' < n then look L t' else .und) := by simp only [resA, mkE_getD]
 simp only [resultsA, List.mapM_cons, List.mapM_nil, Option.pure_def, Option.bind_eq_bind, e, e2]
 cases cellV g m (if t < n then look L t else AVal.und) σ <;> rfl
@[go_sem] theorem eqnilV_nils {σ : Sto} : eqnilV false .sl .nils σ = some (.bool true, σ) := rfl

def RC (m : Nat) (R : Post) : Post := fun v σ' => v.under m = true ∧ (σ'.take m).all (AObj.under m) = true ∧ R v (σ'.take m)
theorem RC_end {σ : Sto} {o m : Nat} {X : AObj} {l : Sto} {v : AVal} {R : Post} (hm : σ.length = m) (hu : σ.all (AObj.under m) = true) (hv : v.under m = true) (hX : AObj.under m X = true) : RC m R v (σ.set o X ++ l) ↔ R v (σ.set o X) := by
 subst hm
 simp only [RC, F7, F8 hu hX, hv, true_and]

theorem state_rest {σ : Sto} {o : Nat} (ho : o < σ.length) (hu : σ.all (AObj.under σ.length) = true) {kd c n rank : Int} {fb fo f : SlF} {b ord : List Int} {r : List Val} {last : Option (SlF × List Val)} {s : Val} (hc : 0 ≤ c ∧ c < r.length) (hlc : ∀ p, last = some p → c < p.2.length) {R : Post} :
  Run T (Ret [.cell 6 true 3, .tmp 7] (RC σ.length R)) [.code X25.c1] (mkE 125 [(0, .ptr o 6 0), (1, rowA f r), (5, .ptr σ.length 4 0), (6, .ptr (σ.length + 1) 3 0), (8, lastA last)])
   (σ.set o (stC n rank (lastA last) s.k s.i s.s) ++ [.cells false (winC kd c fb b fo ord), .cells false z3]) ↔
  (if kd = 1 then R (.tup [vA (numV n), .bool true]) (σ.set o (stC n rank (rowA f r) s.k s.i s.s))
   else if kd = 2 then R (.tup [vA (numV rank), .bool true]) (σ.set o (stC n rank (rowA f r) s.k s.i s.s))
   else if kd = 4 then R (.tup [vA (lagV last c), .bool true]) (σ.set o (stC n rank (rowA f r) s.k s.i s.s))
   else if (colN r c).k = 2 then
    (if 8000000000000000000 < (colN r c).i ∨ (colN r c).i < -8000000000000000000 then R (.tup [vA zV, .bool false]) (σ.set o (stC n rank (rowA f r) s.k s.i s.s))
    else R (.tup [vA ⟨2, IntKind.i64.wrap (s.i + (colN r c).i), s.s⟩, .bool (decide (-4000000000000000000 ≤ IntKind.i64.wrap (s.i + (colN r c).i)) && decide (IntKind.i64.wrap (s.i + (colN r c).i) ≤ 4000000000000000000))]) (σ.set o (stC n rank (rowA f r) 2 (IntKind.i64.wrap (s.i + (colN r c).i)) s.s)))
   else R (.tup [vA s, .bool (decide (-4000000000000000000 ≤ s.i) && decide (s.i ≤ 4000000000000000000))]) (σ.set o (stC n rank (rowA f r) s.k s.i s.s))) := by
 rw [run_unfold X25.c1.eq_1]
 have hX : ∀ k i ss, AObj.under σ.length (stC n rank (rowA f r) k i ss) = true := fun k i ss => by simp (maxSteps := 2000000) only [go_sem, AObj.under, AVal.unders]
 have hend : ∀ {v : AVal} {k i : Int} {ss : ByteArray} {l : Sto}, v.under σ.length = true → (RC σ.length R v (σ.set o (stC n rank (rowA f r) k i ss) ++ l) ↔ R v (σ.set o (stC n rank (rowA f r) k i ss))) := fun hv => RC_end rfl hu hv (hX _ _ _)
 have hz : IntKind.i64.wrap 0 = 0 := by decide
 by_cases h1 : kd = 1
 ·subst h1
  simp (maxSteps := 2000000) only [go_sem, F1 ho, F2, F2z, F3 ho, F4, F4z, F5, F6, List.length_set, numV, hend]
 by_cases h2 : kd = 2
 ·subst h2
  simp (maxSteps := 2000000) only [go_sem, h1, F1 ho, F2, F2z, F3 ho, F4, F4z, F5, F6, List.length_set, numV, hend]
 by_cases h4 : kd = 4
 ·subst h4
  cases last with
  | none => simp (maxSteps := 2000000) only [go_sem, h1, h2, F1 ho, F2, F2z, F3 ho, F4, F4z, F5, F6, List.length_set, hend, lastA, eqnilV_nils, zV, lagV]
  | some p =>
   have hp : p.2 ≠ [] := by
    have := hlc p rfl
    intro e; rw [e] at this; simp at this; omega
   have hcp : 0 ≤ c ∧ c < p.2.length := ⟨hc.1, hlc p rfl⟩
   have ha := fun σ : Sto => @iaddrV_int' 3 p.1 Val (fun v => .agg [.int .i64 v.k, .int .i64 v.i, .str v.s]) p.2 .i64 c σ hcp
   rw [colN_get hcp] at ha
   have hq : ∀ σ : Sto, eqnilV false .sl (sv 3 p.1 (p.2.map fun v => .agg [.int .i64 v.k, .int .i64 v.i, .str v.s])) σ = some (.bool false, σ) := fun σ => eqnilV_sv (by simpa using hp)
   simp (maxSteps := 2000000) only [go_sem, h1, h2, F1 ho, F2, F2z, F3 ho, F4, F4z, F5, F6, List.length_set, hend, lastA, hq, ha, lagV]
 have ha := fun σ : Sto => @iaddrV_int' 3 f Val (fun v => .agg [.int .i64 v.k, .int .i64 v.i, .str v.s]) r .i64 c σ hc
 rw [colN_get hc] at ha
 generalize colN r c = v at *
 have hne : ¬ σ.length + 1 = o := by omega
 by_cases h5 : v.k = 2
 ·by_cases h6 : 8000000000000000000 < v.i
  ·simp (maxSteps := 2000000) only [go_sem, h1, h2, h4, h5, h6, F1 ho, F2, F2z, F3 ho, F4, F4z, F5, F6, List.length_set, hend, ha, zV, true_or]
  ·by_cases h7 : v.i < -8000000000000000000
   ·simp (maxSteps := 2000000) only [go_sem, h1, h2, h4, h5, h6, h7, F1 ho, F2, F2z, F3 ho, F4, F4z, F5, F6, List.length_set, hend, ha, zV, or_true]
   ·generalize hS : IntKind.i64.wrap (s.i + v.i) = S
    by_cases h8 : -4000000000000000000 ≤ S
    ·simp (maxSteps := 2000000) only [go_sem, h1, h2, h4, h5, h6, h7, hS, h8, F1 ho, F2, F2z, F3 ho, F4, F4z, F5, F6, List.length_set, hend, ha, or_self, run_unfold X25.c0.eq_1, run_unfold X25.c1.eq_1, hne]
    ·simp (maxSteps := 2000000) only [go_sem, h1, h2, h4, h5, h6, h7, hS, h8, F1 ho, F2, F2z, F3 ho, F4, F4z, F5, F6, List.length_set, hend, ha, or_self, run_unfold X25.c0.eq_1, run_unfold X25.c1.eq_1, hne, show skipped.isUnd = false from rfl]
 ·by_cases h8 : -4000000000000000000 ≤ s.i
  ·simp (maxSteps := 2000000) only [go_sem, h1, h2, h4, h5, h8, F1 ho, F2, F2z, F3 ho, F4, F4z, F5, F6, List.length_set, hend, ha, or_self, run_unfold X25.c0.eq_1, run_unfold X25.c1.eq_1, hne]
  ·simp (maxSteps := 2000000) only [go_sem, h1, h2, h4, h5, h8, F1 ho, F2, F2z, F3 ho, F4, F4z, F5, F6, List.length_set, hend, ha, or_self, run_unfold X25.c0.eq_1, run_unfold X25.c1.eq_1, hne, show skipped.isUnd = false from rfl]

abbrev winA (kd c : Int) (fb : SlF) (b : List Int) (fo : SlF) (o : List Int) : AVal := .agg [.int .i64 kd, .int .i64 c, ints fb b, ints fo o]
theorem state_next_cw {σ : Sto} {o : Nat} {st : St} (hst : σ[o]? = some (stO st)) (hu : σ.all (AObj.under σ.length) = true) {kd c : Int} {fb fo : SlF} {b ord : List Int} {fr : SlF × List Val} (hc : 0 ≤ c ∧ c < fr.2.length) (hlc : ∀ p, st.last = some p → c < p.2.length ∧ InC p.2 ord) (hin : InC fr.2 ord) (hb : ord.length < 1000000) {R : Post} :
  Cw T false i_X25 [.ptr o 6 0, rowA fr.1 fr.2, winA kd c fb b fo ord] [] σ R ↔ R (.tup [vA (nextS kd c ord st fr).2.1, .bool (nextS kd c ord st fr).2.2]) (σ.set o (stO (nextS kd c ord st fr).1)) := by
 have ho : o < σ.length := (List.getElem?_eq_some_iff.1 hst).1
 have hσ : σ = σ.set o (stO st) := (set_same_v hst).symm
 obtain ⟨n, rank, last, sum⟩ := st
 obtain ⟨f, r⟩ := fr
 rw [cw_cut T_X25 (by simp), run_unfold X25.main.eq_1]
 have hfr : Fits (pickC r ord) := by unfold Fits; rw [pickC_len]; omega
 have hrest := fun (rank' : Int) => state_rest (kd := kd) (n := IntKind.i64.wrap (n + 1)) (rank := rank') (fb := fb) (fo := fo) (f := f) (b := b) (ord := ord) (s := sum) ho hu hc (fun p hp => (hlc p hp).1) (R := R)
 have hend : ∀ rank', (if isPeer ord last r = true then rank else IntKind.i64.wrap (n + 1)) = rank' → (Run T (Ret [.cell 6 true 3, .tmp 7] (RC σ.length R)) [.code X25.c1] (mkE 125 [(0, .ptr o 6 0), (1, rowA f r), (5, .ptr σ.length 4 0), (6, .ptr (σ.length + 1) 3 0), (8, lastA last)])
   (σ.set o (stC (IntKind.i64.wrap (n + 1)) rank' (lastA last) sum.k sum.i sum.s) ++ [.cells false (winC kd c fb b fo ord), .cells false z3]) ↔ R (.tup [vA (nextS kd c ord ⟨n, rank, last, sum⟩ (f, r)).2.1, .bool (nextS kd c ord ⟨n, rank, last, sum⟩ (f, r)).2.2]) (σ.set o (stO (nextS kd c ord ⟨n, rank, last, sum⟩ (f, r)).1))) := by
  rintro rank' rfl
  rw [hrest]
  unfold nextS
  dsimp only
  by_cases h1 : kd = 1
  ·simp only [if_pos h1]; try exact Iff.rfl
  by_cases h2 : kd = 2
  ·simp only [if_neg h1, if_pos h2]; try exact Iff.rfl
  by_cases h4 : kd = 4
  ·simp only [if_neg h1, if_neg h2, if_pos h4]; try exact Iff.rfl
  by_cases h5 : (colN r c).k = 2
  ·by_cases h6 : 8000000000000000000 < (colN r c).i ∨ (colN r c).i < -8000000000000000000
   ·simp only [if_neg h1, if_neg h2, if_neg h4, if_pos h5, if_pos h6]; try exact Iff.rfl
   ·simp only [if_neg h1, if_neg h2, if_neg h4, if_pos h5, if_neg h6]; try exact Iff.rfl
  ·simp only [if_neg h1, if_neg h2, if_neg h4, if_neg h5]; try exact Iff.rfl
 generalize hG : R (.tup [vA (nextS kd c ord ⟨n, rank, last, sum⟩ (f, r)).2.1, .bool (nextS kd c ord ⟨n, rank, last, sum⟩ (f, r)).2.2]) (σ.set o (stO (nextS kd c ord ⟨n, rank, last, sum⟩ (f, r)).1)) = G at hend ⊢
 change Run T (Ret [.cell 6 true 3, .tmp 7] (RC σ.length R)) _ _ σ ↔ G
 cases last with
 | none =>
  have := hend (IntKind.i64.wrap (n + 1)) rfl
  rw [← this]
  conv => lhs; rw [hσ]
  simp (maxSteps := 2000000) only [go_sem, F1 ho, F2, F2z, F3 ho, F4, F4z, F5, F6, List.length_set, List.getElem?_set_self ho, List.set_set, lastA, run_unfold X25.c0.eq_1, run_unfold X25.c1.eq_1]
 | some p =>
  obtain ⟨g, q⟩ := p
  obtain ⟨hq1, hq2⟩ := hlc _ rfl
  have hne : q ≠ [] := by intro e; rw [e] at hq1; simp at hq1; omega
  have hq : ∀ σ : Sto, eqnilV false .sl (sv 3 g (q.map fun v => .agg [.int .i64 v.k, .int .i64 v.i, .str v.s])) σ = some (.bool false, σ) := fun σ => eqnilV_sv (by simpa using hne)
  have hfq : Fits (pickC q ord) := by unfold Fits; rw [pickC_len]; omega
  by_cases hk : pickC q ord = pickC r ord
  ·have hkd : decide (pickC q ord = pickC r ord) = true := by simp [hk]
   have := hend rank (by simp only [isPeer, hkd, if_true])
   rw [← this]
   conv => lhs; rw [hσ]
   simp (maxSteps := 2000000) only [go_sem, F1 ho, F2, F2z, F3 ho, F4, F4z, F5, F6, List.length_set, List.getElem?_set_self ho, List.set_set, lastA, run_unfold X25.c0.eq_1, run_unfold X25.c1.eq_1, hq, X37_call hb hq2, X37_call hb hin, X23_call hfq hfr, hkd]
  ·have hkd : decide (pickC q ord = pickC r ord) = false := by simp [hk]
   have := hend (IntKind.i64.wrap (n + 1)) (by simp only [isPeer, hkd, Bool.false_eq_true, if_false])
   rw [← this]
   conv => lhs; rw [hσ]
   simp (maxSteps := 2000000) only [go_sem, F1 ho, F2, F2z, F3 ho, F4, F4z, F5, F6, List.length_set, List.getElem?_set_self ho, List.set_set, lastA, run_unfold X25.c0.eq_1, run_unfold X25.c1.eq_1, hq, X37_call hb hq2, X37_call hb hin, X23_call hfq hfr, hkd]
end Go.Abs
/- Walks of chapter 42: one row of Compute. -/
set_option linter.unusedSimpArgs false
set_option linter.unusedVariables false
namespace Go.Abs
open Go
attribute [local go_sem_proc] Nat.reduceLT Nat.reduceEqDiff Nat.reduceLeDiff Nat.reduceAdd Nat.reduceSub Nat.reduceMul Int.reduceLT Int.reduceLE Int.reduceEq Int.reduceNeg
attribute [local go_sem_proc ↓] reduceIte

section
variable {σ : Sto} {q : Nat}
theorem G1 {i : Nat} (hi : i < σ.length) (hq : i ≠ q) (X : AObj) (l : Sto) : (σ.set q X ++ l)[i]? = σ[i]? := by
 rw [List.getElem?_append_left (by simpa using hi), List.getElem?_set, if_neg (Ne.symm hq)]
theorem G3 {i : Nat} (hi : i < σ.length) (X Y : AObj) (l : Sto) : (σ.set q X ++ l).set i Y = (σ.set q X).set i Y ++ l := by
 rw [List.set_append_left _ _ (by simpa using hi)]
theorem G7 {i : Nat} (X Y : AObj) (l : Sto) : ((σ.set q X).set i Y ++ l).take σ.length = (σ.set q X).set i Y := by
 rw [List.take_append_of_le_length (by simp), List.take_of_length_le (by simp)]
theorem A1 {i : Nat} (hi : i < σ.length) (l : Sto) : (σ ++ l)[i]? = σ[i]? := List.getElem?_append_left hi
theorem A2 (l : Sto) : (σ ++ l)[σ.length]? = l[0]? := by rw [List.getElem?_append_right (Nat.le_refl _), Nat.sub_self]
theorem A3 (hq : q < σ.length) (X : AObj) (l : Sto) : (σ ++ l).set q X = σ.set q X ++ l := List.set_append_left _ _ hq
end
theorem w_names_mono {f g : Nat → Bool} (h : ∀ o, f o = true → g o = true) : ∀ (v : AVal), v.names f = true → v.names g = true := by
 intro v
 refine AVal.rec (motive_1 := fun v => v.names f = true → v.names g = true) (motive_2 := fun vs => AVal.namesL f vs = true → AVal.namesL g vs = true)
  ?_ ?_ ?_ ?_ ?_ ?_ ?_ ?_ ?_ ?_ ?_ ?_ ?_ ?_ ?_ ?_ ?_ ?_ ?_ ?_ ?_ ?_ v <;> intros <;> simp_all [AVal.names, AVal.namesL]
theorem w_namesL_mono {f g : Nat → Bool} (h : ∀ o, f o = true → g o = true) : ∀ (vs : List AVal), AVal.namesL f vs = true → AVal.namesL g vs = true
 | [], _ => rfl
 | v :: vs, hv => by
  simp only [AVal.namesL, Bool.and_eq_true] at hv ⊢
  exact ⟨w_names_mono h v hv.1, w_namesL_mono h vs hv.2⟩
theorem under_mono {m n : Nat} (h : m ≤ n) {ob : AObj} (hu : ob.under m = true) : ob.under n = true := by
 have hm : ∀ o : Nat, decide (o < m) = true → decide (o < n) = true := fun o ho => by simp only [decide_eq_true_eq] at ho ⊢; omega
 cases ob with
 | cells nl cs => exact w_namesL_mono hm cs hu
 | map ks vs =>
  simp only [AObj.under, Bool.and_eq_true] at hu ⊢
  exact ⟨w_namesL_mono hm ks hu.1, w_namesL_mono hm vs hu.2⟩
 | dead => rfl

theorem compute_tail {σ : Sto} {q : Nat} {st : St} (hst : σ[q]? = some (stO st)) (hu : σ.all (AObj.under σ.length) = true) (hq : 2 < q) {kd c : Int} {fb fo f fp : SlF} {b ord : List Int} {l : Rows} {D : List Val} {S P : List Int} {i : Nat} {x : Int} {V : AVal} {k : List Item}
  (h0 : σ[0]? = some (.cells false (winC kd c fb b fo ord))) (h2 : σ[2]? = some (.cells false (cellsV D))) (hD : D.length = l.length) (hx : 0 ≤ x ∧ x < l.length)
  (hc : 0 ≤ c ∧ c < (rowN l x).length) (hlc : ∀ p, st.last = some p → c < p.2.length ∧ InC p.2 ord) (hin : InC (rowN l x) ord) (hb : ord.length < 1000000)
  (hV : (nextS kd c ord st (l[x.toNat]'(by omega))).2.2 = false → V = .tup [.nils, .int .i64 2])
  (next : (nextS kd c ord st (l[x.toNat]'(by omega))).2.2 = true → Run T (Res [.tmp 4, .tmp 5] V) k (mkE 112 [(0, rowsA f l), (3, .ptr 0 4 0), (7, .map 1), (8, ints fp P), (9, .ref 2 (l.length * 3) 0 l.length 3), (72, ints .lst S), (73, .int .i64 S.length), (74, .int .i64 i)])
   ((σ.set q (stO (nextS kd c ord st (l[x.toNat]'(by omega))).1)).set 2 (.cells false (cellsV (D.set x.toNat (nextS kd c ord st (l[x.toNat]'(by omega))).2.1))))) :
  Run T (Res [.tmp 4, .tmp 5] V) (.code X34.c3 :: k) (mkE 112 [(0, rowsA f l), (3, .ptr 0 4 0), (7, .map 1), (8, ints fp P), (9, .ref 2 (l.length * 3) 0 l.length 3), (11, .int .i64 x), (12, .ptr q 6 0), (72, ints .lst S), (73, .int .i64 S.length), (74, .int .i64 i)]) σ := by
 have hql : q < σ.length := (List.getElem?_eq_some_iff.1 hst).1
 have hl0 : 0 < σ.length := by omega
 have hl1 : 1 < σ.length := by omega
 have hl2 : 2 < σ.length := by omega
 have hxl : x.toNat < l.length := by omega
 generalize hfr : l[x.toNat]'hxl = fr at hV next
 have hr : fr.2 = rowN l x := by rw [← hfr]; exact rowN_int hx
 rw [← hr] at hc hin
 rcases hN : nextS kd c ord st fr with ⟨st', v, ok⟩
 rw [hN] at hV next
 have e1 : ∀ {R : Post}, Cw T false i_X25 [.ptr q 6 0, rowA fr.1 fr.2, winA kd c fb b fo ord] [] σ R ↔ R (.tup [vA v, .bool ok]) (σ.set q (stO st')) := fun {R} => by
  have := state_next_cw (R := R) hst hu (kd := kd) (fb := fb) (fo := fo) (b := b) hc hlc hin hb
  rw [hN] at this; exact this
 have hu2 : (σ ++ [AObj.cells false z3]).all (AObj.under (σ ++ [AObj.cells false z3]).length) = true := by
  rw [List.all_append, Bool.and_eq_true]
  refine ⟨?_, by simp [AObj.under, AVal.unders, AVal.namesL, AVal.names]⟩
  rw [List.all_eq_true] at hu ⊢
  exact fun ob hob => under_mono (by simp) (hu ob hob)
 have e2 : ∀ {R : Post}, Cw T false i_X25 [.ptr q 6 0, rowA fr.1 fr.2, winA kd c fb b fo ord] [] (σ ++ [AObj.cells false z3]) R ↔ R (.tup [vA v, .bool ok]) (σ.set q (stO st') ++ [AObj.cells false z3]) := fun {R} => by
  have := state_next_cw (R := R) (σ := σ ++ [AObj.cells false z3]) ((A1 hql _).trans hst) hu2 (kd := kd) (fb := fb) (fo := fo) (b := b) hc hlc hin hb
  rw [hN, A3 hql] at this; exact this
 have hax := fun σ : Sto => @iaddrV_int' 1 f _ (fun p : SlF × List Val => sv 3 p.1 (p.2.map fun v => .agg [.int .i64 v.k, .int .i64 v.i, .str v.s])) l .i64 x σ hx
 rw [hfr] at hax
 have k1 : ∀ {Q : Post3} {k : List Item} {os : List AOper} {d : Option Nat} {e : Env}, CallK T Q k os d e σ false i_X25 [.ptr q 6 0, rowA fr.1 fr.2, winA kd c fb b fo ord] ↔ Run T Q (.ops os :: k) (put e d (.tup [vA v, .bool ok])) (σ.set q (stO st')) := e1
 have k2 : ∀ {Q : Post3} {k : List Item} {os : List AOper} {d : Option Nat} {e : Env}, CallK T Q k os d e (σ ++ [AObj.cells false z3]) false i_X25 [.ptr q 6 0, rowA fr.1 fr.2, winA kd c fb b fo ord] ↔ Run T Q (.ops os :: k) (put e d (.tup [vA v, .bool ok])) (σ.set q (stO st') ++ [AObj.cells false z3]) := e2
 rw [run_unfold X34.c3.eq_1]
 simp (maxSteps := 2000000) only [go_sem, hax, h0, k1, k2, A1 hl0, List.length_set, F2z, F4z]
 have hxD : x.toNat < D.length := by omega
 have hov := over_val (l := D) (i := x.toNat) (v := v) hxD
 simp only [overwrite, List.length_cons, List.length_nil, Nat.reduceAdd] at hov
 have hle : x.toNat * 3 + 3 ≤ l.length * 3 := by omega
 have hq2 : 2 ≠ q := by omega
 have hall : ((σ.set q (stO st')).set 2 (.cells false (cellsV (D.set x.toNat v)))).all (AObj.under σ.length) = true := by
  refine F8 (F8 hu ?_) ?_
  ·simp only [AObj.under, AVal.unders]; simp (maxSteps := 2000000) only [go_sem]
  ·simp only [AObj.under, AVal.unders]; exact v_names_flat (fun _ => rfl) _
 cases ok with
 | false =>
  have := hV rfl
  simp (maxSteps := 2000000) only [go_sem, this]
 | true =>
  have next' := next rfl
  simp (maxSteps := 2000000) only [go_sem, iaddrV_refI hx.1, G1 hl2 hq2, G3 hl2, G7, h2, cellsV_len, hD, hxl, Nat.zero_add, hle, hov, hall, List.set_set, hl0, hl1, hl2, F1, F2z]
  exact next'
end Go.Abs
/- Walks of chapter 42: all rows of Compute. -/
set_option linter.unusedSimpArgs false
set_option linter.unusedVariables false
namespace Go.Abs
open Go
attribute [local go_sem_proc] Nat.reduceLT Nat.reduceEqDiff Nat.reduceLeDiff Nat.reduceAdd Nat.reduceSub Nat.reduceMul Int.reduceLT Int.reduceLE Int.reduceEq Int.reduceNeg
attribute [local go_sem_proc ↓] reduceIte

def St0 : St := ⟨0, 0, none, zV⟩
def rowP (l : Rows) (x : Int) : SlF × List Val := l.getD x.toNat (.nil, [])
theorem rowP_get {l : Rows} {x : Int} (h : x.toNat < l.length) : l[x.toNat] = rowP l x := by
 unfold rowP
 rw [List.getD_eq_getElem?_getD, List.getElem?_eq_getElem h]; rfl
theorem rowP_snd {l : Rows} {x : Int} : (rowP l x).2 = rowN l x := rfl
def gdZ (P : List Int) (x : Int) : Int := P.getD x.toNat 0
def compF (kd c : Int) (ord : List Int) (l : Rows) (part : Int → Int) : (Int → St) → List Int → List Val → Option (List Val)
 | _, [], D => some D
 | f, i :: r, D =>
  if (nextS kd c ord (f (part i)) (rowP l i)).2.2 = true then
   compF kd c ord l part (fun y => if y = part i then (nextS kd c ord (f (part i)) (rowP l i)).1 else f y) r (D.set i.toNat (nextS kd c ord (f (part i)) (rowP l i)).2.1)
  else none
theorem nextS_last {kd c : Int} {ord : List Int} {s : St} {fr : SlF × List Val} : (nextS kd c ord s fr).1.last = some fr := by
 unfold nextS
 dsimp only
 repeat' split
 all_goals rfl

structure Sim (S : List (Int × St)) (f : Int → St) : Prop where
 at' : ∀ (j : Nat) (h : j < S.length), f S[j].1 = S[j].2
 out : ∀ p, (∀ e ∈ S, e.1 ≠ p) → f p = St0
 nd : ∀ (i j : Nat) (hi : i < S.length) (hj : j < S.length), S[i].1 = S[j].1 → i = j
theorem Sim.set {S : List (Int × St)} {f : Int → St} (h : Sim S f) {j : Nat} (hj : j < S.length) {p : Int} (hp : S[j].1 = p) (st : St) : Sim (S.set j (p, st)) (fun y => if y = p then st else f y) := by
 have key : ∀ (i : Nat) (hi : i < S.length), ((S.set j (p, st))[i]'(by simpa using hi)).1 = S[i].1 := fun i hi => by
  rw [List.getElem_set]; split
  ·rename_i e; subst e; exact hp.symm
  ·rfl
 refine ⟨fun i hi => ?_, fun y hy => ?_, fun a b ha hb e => ?_⟩
 ·have hi' : i < S.length := by simpa using hi
  by_cases e : j = i
  ·subst e; simp
  ·have : S[i].1 ≠ p := fun h2 => e (h.nd j i hj hi' (by rw [hp, h2]))
   rw [key i hi', if_neg this, List.getElem_set, if_neg e]; exact h.at' i hi'
 ·have : y ≠ p := fun e => by
   have := hy ((S.set j (p, st))[j]'(by simpa using hj)) (List.getElem_mem _)
   rw [key j hj, hp] at this; exact this e.symm
  rw [if_neg this]
  refine h.out y fun e he => ?_
  obtain ⟨i, hi, rfl⟩ := List.getElem_of_mem he
  have := hy ((S.set j (p, st))[i]'(by simpa using hi)) (List.getElem_mem _)
  rwa [key i hi] at this
 ·have ha' : a < S.length := by simpa using ha
  have hb' : b < S.length := by simpa using hb
  rw [key a ha', key b hb'] at e
  exact h.nd a b ha' hb' e
theorem Sim.add {S : List (Int × St)} {f : Int → St} (h : Sim S f) {p : Int} (hp : ∀ e ∈ S, e.1 ≠ p) : Sim (S ++ [(p, St0)]) f := by
 refine ⟨fun i hi => ?_, fun y hy => h.out y fun e he => hy e (by simp [he]), fun a b ha hb e => ?_⟩
 ·rcases Nat.lt_or_ge i S.length with h1 | h1
  ·simp only [List.getElem_append_left h1]; exact h.at' i h1
  ·have : i = S.length := by simp at hi; omega
   subst this
   simp only [List.getElem_append_right (Nat.le_refl _), Nat.sub_self, List.getElem_cons_zero]
   exact h.out p hp
 ·have ha' : a ≤ S.length := by simp at ha; omega
  have hb' : b ≤ S.length := by simp at hb; omega
  rcases Nat.lt_or_ge a S.length with h1 | h1 <;> rcases Nat.lt_or_ge b S.length with h2 | h2
  ·rw [List.getElem_append_left h1, List.getElem_append_left h2] at e; exact h.nd a b h1 h2 e
  ·have : b = S.length := by omega
   subst this
   rw [List.getElem_append_left h1] at e
   simp at e
   exact absurd e (hp _ (List.getElem_mem h1))
  ·have : a = S.length := by omega
   subst this
   rw [List.getElem_append_left h2] at e
   simp at e
   exact absurd e.symm (hp _ (List.getElem_mem h2))
  ·omega

abbrev keysS (S : List (Int × St)) : List AVal := S.map fun e => .int .i64 e.1
abbrev ptrsS (n : Nat) : List AVal := (List.range n).map fun j => .ptr (j + 3) 6 0
theorem findA_no {p : Int} : ∀ {S : List (Int × St)} {k : Nat}, (∀ e ∈ S, e.1 ≠ p) → findA (.int .i64) (.int .i64 p) (keysS S) k = some none
 | [], k, _ => rfl
 | e :: S, k, h => by
  have h1 : ¬ p = e.1 := fun e' => h e (by simp) e'.symm
  have := findA_no (S := S) (k := k + 1) fun x hx => h x (by simp [hx])
  simp only [keysS, List.map_cons, findA, eqA, if_true] at this ⊢
  rw [show (p == e.1) = false from by simpa using h1]
  exact this
theorem findA_yes {p : Int} : ∀ {S : List (Int × St)} {k j : Nat} (hj : j < S.length), S[j].1 = p → (∀ i (hi : i < j), (S[i]'(by omega)).1 ≠ p) → findA (.int .i64) (.int .i64 p) (keysS S) k = some (some (k + j))
 | e :: S, k, 0, hj, h, _ => by
  simp only [List.getElem_cons_zero] at h
  simp only [keysS, List.map_cons, findA, eqA, if_true, h, beq_self_eq_true, Nat.add_zero]
 | e :: S, k, j + 1, hj, h, hn => by
  have h1 : ¬ p = e.1 := fun e' => hn 0 (by omega) e'.symm
  have := findA_yes (S := S) (k := k + 1) (j := j) (by simpa using hj) (by simpa using h) fun i hi => by
   have := hn (i + 1) (by omega)
   simpa using this
  simp only [keysS, List.map_cons, findA, eqA, if_true] at this ⊢
  rw [show (p == e.1) = false from by simpa using h1]
  simp only [this]
  congr 2; omega

theorem eqA_self {p : Int} : eqA (.int .i64) (.int .i64 p) (.int .i64 p) = some true := by simp [eqA]
theorem look_yes {S : List (Int × St)} {σ : Sto} {p : Int} {j : Nat} (hσ : σ[1]? = some (.map (keysS S) (ptrsS S.length))) (hj : j < S.length) (hp : S[j].1 = p) (hn : ∀ i (hi : i < j), (S[i]'(by omega)).1 ≠ p) :
  lookupV (.int .i64) .nilp false (.map 1) (.int .i64 p) σ = some (.ptr (j + 3) 6 0, σ) := by
 simp only [lookupV, hσ, lookAV, findA_yes hj hp hn, eqA_self, if_true]
 simp [hj, ptrsS]
theorem look_no {S : List (Int × St)} {σ : Sto} {p : Int} (hσ : σ[1]? = some (.map (keysS S) (ptrsS S.length))) (hp : ∀ e ∈ S, e.1 ≠ p) :
  lookupV (.int .i64) .nilp false (.map 1) (.int .i64 p) σ = some (.nilp, σ) := by
 simp only [lookupV, hσ, lookAV, findA_no hp, eqA_self, if_true]
 rfl
theorem mapup_no {S : List (Int × St)} {σ : Sto} {p : Int} {v : AVal} (hσ : σ[1]? = some (.map (keysS S) (ptrsS S.length))) (hp : ∀ e ∈ S, e.1 ≠ p) :
  mapupV (.int .i64) (.map 1) (.int .i64 p) v σ = some (.und, σ.set 1 (.map (keysS S ++ [.int .i64 p]) (ptrsS S.length ++ [v]))) := by
 simp only [mapupV, hσ, findA_no hp, eqA, if_true, beq_self_eq_true]

abbrev cSto (W : AObj) (S : List (Int × St)) (D : List Val) : Sto := W :: .map (keysS S) (ptrsS S.length) :: .cells false (cellsV D) :: S.map fun e => stO e.2
theorem cSto_len {W : AObj} {S : List (Int × St)} {D : List Val} : (cSto W S D).length = S.length + 3 := by simp
theorem cSto_under {kd c : Int} {fb fo : SlF} {b ord : List Int} {S : List (Int × St)} {D : List Val} : (cSto (.cells false (winC kd c fb b fo ord)) S D).all (AObj.under (cSto (.cells false (winC kd c fb b fo ord)) S D).length) = true := by
 rw [cSto_len]
 simp only [cSto, List.all_cons, Bool.and_eq_true]
 refine ⟨?_, ?_, ?_, ?_⟩
 ·simp only [AObj.under, AVal.unders]; simp (maxSteps := 2000000) only [go_sem]
 ·simp only [AObj.under, AVal.unders, Bool.and_eq_true]
  refine ⟨v_names_map (fun _ => rfl) _, ?_⟩
  have : ∀ (js : List Nat), (∀ j ∈ js, j < S.length) → AVal.namesL (fun o => decide (o < S.length + 3)) (js.map fun j => AVal.ptr (j + 3) 6 0) = true := by
   intro js
   induction js with
   | nil => intro _; rfl
   | cons j js ih =>
    intro h
    have h1 := h j (by simp)
    simp only [List.map_cons, AVal.namesL, AVal.names, ih fun x hx => h x (by simp [hx]), Bool.and_true, decide_eq_true_eq]; omega
  exact this _ fun j hj => List.mem_range.1 hj
 ·simp only [AObj.under, AVal.unders]; exact v_names_flat (fun _ => rfl) _
 ·rw [List.all_eq_true]
  intro ob hob
  obtain ⟨e, _, rfl⟩ := List.mem_map.1 hob
  simp only [AObj.under, AVal.unders]; simp (maxSteps := 2000000) only [go_sem]

theorem set_same_l {α : Type} {l : List α} {i : Nat} {x : α} (h : l[i]? = some x) : l.set i x = l := by
 obtain ⟨h1, h2⟩ := List.getElem?_eq_some_iff.1 h
 subst h2
 exact List.set_getElem_self h1
def compV (r : Option (List Val)) : AVal := match r with
 | some D => .tup [rowA .lst D, .int .i64 0]
 | none => .tup [.nils, .int .i64 2]
def LastOk (c : Int) (ord : List Int) (f : Int → St) : Prop := ∀ y p, (f y).last = some p → c < p.2.length ∧ InC p.2 ord

theorem compute_loop {kd c : Int} {fb fo f fp : SlF} {b ord : List Int} {l : Rows} {P : List Int} (hl : RowsFit l) (hP : P.length = l.length) (hb : ord.length < 1000000)
  (hcol : ∀ x : Int, 0 ≤ x ∧ x < l.length → (0 ≤ c ∧ c < (rowN l x).length) ∧ InC (rowN l x) ord) {s : List Int} (hs : ∀ x ∈ s, 0 ≤ x ∧ x < l.length) (hsl : s.length = l.length) : ∀ i, i ≤ s.length → ∀ (S : List (Int × St)) (D : List Val) (g : Int → St), Sim S g → LastOk c ord g → D.length = l.length →
  Run T (Res [.tmp 4, .tmp 5] (compV (compF kd c ord l (gdZ P) g (s.drop i) D))) (.inLoop X34.b0 :: X34.k0) (mkE 112 [(0, rowsA f l), (3, .ptr 0 4 0), (7, .map 1), (8, ints fp P), (9, .ref 2 (l.length * 3) 0 l.length 3), (72, ints .lst s), (73, .int .i64 s.length), (74, .int .i64 i)]) (cSto (.cells false (winC kd c fb b fo ord)) S D) := by
 have hl3 := hl.1
 refine up_ind ?_ fun i hi ih => ?_
 ·intro S D g hS hL hD
  rw [run_round, run_unfold X34.b0.eq_1]
  have hsn := snap_vals (n := 61) (o := 2) (σ := cSto (.cells false (winC kd c fb b fo ord)) S D) (c := D) rfl
  rw [hD] at hsn
  simp (maxSteps := 2000000) only [go_sem, run_unfold X34.c0.eq_1, run_unfold X34.c1.eq_1, run_unfold X34.c2.eq_1, run_unfold X34.c3.eq_1, X34.k0, List.drop_length, compF, compV, hsn]
 ·intro S D g hS hL hD
  rw [run_round, run_unfold X34.b0.eq_1]
  rw [List.drop_eq_getElem_cons hi]
  have hx := hs _ (List.getElem_mem hi)
  generalize hxe : s[i] = x at hx
  have hxl : x.toNat < l.length := by omega
  have hxP : 0 ≤ x ∧ x < P.length := by omega
  have hap := fun σ : Sto => @iaddrV_int' 1 fp Int (fun n => .int .i64 n) P .i64 x σ hxP
  have hpg : P[x.toNat]'(by omega) = gdZ P x := by unfold gdZ; rw [List.getD_eq_getElem?_getD, List.getElem?_eq_getElem (by omega)]; rfl
  rw [hpg] at hap
  obtain ⟨hc1, hc2⟩ := hcol x hx
  have step : ∀ (S : List (Int × St)), Sim S g → ∀ (j : Nat) (hj : j < S.length) (hjp : S[j].1 = gdZ P x), Run T (Res [.tmp 4, .tmp 5] (compV (compF kd c ord l (gdZ P) g (x :: s.drop (i + 1)) D))) (.code X34.c3 :: ([.inBlock 1, .code X34.c2, .inLoop X34.b0] ++ X34.k0))
    (mkE 112 [(0, rowsA f l), (3, .ptr 0 4 0), (7, .map 1), (8, ints fp P), (9, .ref 2 (l.length * 3) 0 l.length 3), (11, .int .i64 x), (12, .ptr (j + 3) 6 0), (72, ints .lst s), (73, .int .i64 s.length), (74, .int .i64 i)]) (cSto (.cells false (winC kd c fb b fo ord)) S D) := by
   intro S hS j hj hjp
   have hst : (cSto (.cells false (winC kd c fb b fo ord)) S D)[j + 3]? = some (stO S[j].2) := by simp [hj]
   have hgj : g (gdZ P x) = S[j].2 := by rw [← hjp]; exact hS.at' j hj
   have ht := compute_tail (kd := kd) (c := c) (fb := fb) (fo := fo) (f := f) (fp := fp) (b := b) (ord := ord) (l := l) (D := D) (S := s) (P := P) (i := i) (x := x) (V := compV (compF kd c ord l (gdZ P) g (x :: s.drop (i + 1)) D)) (k := [.inBlock 1, .code X34.c2, .inLoop X34.b0] ++ X34.k0) hst cSto_under (by omega) rfl rfl hD hx hc1 (fun p hp => hL (gdZ P x) p (by rw [hgj]; exact hp)) hc2 hb
    (fun hno => by rw [compF, hgj, ← rowP_get hxl, if_neg (by rw [hno]; decide)]; rfl)
    (fun hok => by
     have hS' := hS.set hj hjp (nextS kd c ord S[j].2 l[x.toNat]).1
     have ih' := ih _ (D.set x.toNat (nextS kd c ord S[j].2 l[x.toNat]).2.1) _ hS' (fun y p hp => by
      split at hp
      ·rw [nextS_last] at hp
       obtain rfl := Option.some.inj hp
       rw [rowP_get hxl]; exact ⟨hc1.2, hc2⟩
      ·exact hL y p hp) (by simpa using hD)
     rw [compF, hgj, ← rowP_get hxl, if_pos hok]
     have e1 : keysS (S.set j (gdZ P x, (nextS kd c ord S[j].2 l[x.toNat]).1)) = keysS S := by
      rw [keysS, List.map_set, ← hjp]
      exact set_same_l (by simp [hj])
     have e2 : ((cSto (.cells false (winC kd c fb b fo ord)) S D).set (j + 3) (stO (nextS kd c ord S[j].2 l[x.toNat]).1)).set 2 (.cells false (cellsV (D.set x.toNat (nextS kd c ord S[j].2 l[x.toNat]).2.1))) = cSto (.cells false (winC kd c fb b fo ord)) (S.set j (gdZ P x, (nextS kd c ord S[j].2 l[x.toNat]).1)) (D.set x.toNat (nextS kd c ord S[j].2 l[x.toNat]).2.1) := by
      simp only [cSto, List.set_cons_succ, List.set_cons_zero, e1, List.length_set, List.map_set]
     rw [e2]
     simp (maxSteps := 2000000) only [go_sem, run_unfold X34.c0.eq_1, run_unfold X34.c1.eq_1, run_unfold X34.c2.eq_1, run_unfold X34.c3.eq_1, X34.k0, wrap_succ (show i < 9223372036854775807 by omega)]
     exact ih')
   exact ht
  by_cases hex : ∃ j, ∃ h : j < S.length, S[j].1 = gdZ P x
  ·obtain ⟨j, hj, hjp⟩ := hex
   have hlk := look_yes (σ := cSto (.cells false (winC kd c fb b fo ord)) S D) rfl hj hjp (fun i' hi' e => by have := hS.nd i' j (by omega) hj (by rw [e, hjp]); omega)
   have ht := step S hS j hj hjp
   have he : eqnilV false .pt (.ptr (j + 3) 6 0) (cSto (.cells false (winC kd c fb b fo ord)) S D) = some (.bool false, cSto (.cells false (winC kd c fb b fo ord)) S D) := by
    simp [eqnilV, hj]
   simp (maxSteps := 2000000) only [go_sem, hi, hxe, hap, hlk, he]
   exact ht
  ·have hno : ∀ e ∈ S, e.1 ≠ gdZ P x := fun e he h => by
    obtain ⟨j, hj, rfl⟩ := List.getElem_of_mem he
    exact hex ⟨j, hj, h⟩
   have hlk := look_no (σ := cSto (.cells false (winC kd c fb b fo ord)) S D) rfl hno
   have he : ∀ σ : Sto, eqnilV false .pt .nilp σ = some (.bool true, σ) := fun σ => rfl
   have hmu : mapupV (.int .i64) (.map 1) (.int .i64 (gdZ P x)) (.ptr (S.length + 1 + 1 + 1) 6 0) (.cells false (winC kd c fb b fo ord) :: .map (keysS S) (ptrsS S.length) :: .cells false (cellsV D) :: (S.map (fun e => stO e.2) ++ [.cells false [.int .i64 0, .int .i64 0, .nils, .int .i64 0, .int .i64 0, .str ⟨#[]⟩]])) =
     some (.und, cSto (.cells false (winC kd c fb b fo ord)) (S ++ [(gdZ P x, St0)]) D) := by
    rw [mapup_no rfl hno]
    simp only [cSto, List.set_cons_succ, List.set_cons_zero, keysS, ptrsS, List.map_append, List.map_cons, List.map_nil, List.length_append, List.length_cons, List.length_nil, Nat.zero_add, List.range_succ]
    rfl
   have ht := step (S ++ [(gdZ P x, St0)]) (hS.add hno) S.length (by simp) (by simp)
   simp (maxSteps := 2000000) only [go_sem, hi, hxe, hap, hlk, he, hmu]
   exact ht
end Go.Abs
/- Walks of chapter 42: Compute. -/
set_option linter.unusedSimpArgs false
set_option linter.unusedVariables false
namespace Go.Abs
open Go
attribute [local go_sem_proc] Nat.reduceLT Nat.reduceEqDiff Nat.reduceLeDiff Nat.reduceAdd Nat.reduceSub Nat.reduceMul Int.reduceLT Int.reduceLE Int.reduceEq Int.reduceNeg
attribute [local go_sem_proc ↓] reduceIte

def winOk (kd c : Int) (b o : List Int) (l : Rows) : Bool := decide (1 ≤ kd) && decide (kd ≤ 4) && decide (b.length ≤ 8) && decide (o.length ≤ 8) && tab l (c :: (b ++ o))
def computeR (kd c : Int) (b o : List Int) (l : Rows) : Option (List Val) × Int :=
 if winOk kd c b o l = true then
  (if kd = 3 ∧ (l.any fun p => oddC c p.2) = true then (none, 6)
   else match compF kd c o l (gdZ (partI l b)) (fun _ => St0) (sortI l o) (List.replicate l.length zV) with
   | some D => (some D, 0)
   | none => (none, 2))
 else (none, 1)
def resV (r : Option (List Val) × Int) : AVal := .tup [match r.1 with | some D => rowA .lst D | none => .nils, .int .i64 r.2]
def fnd (r : Option (List Val)) : SlF := match r with
 | some _ => .lst
 | none => .nil

theorem snap_clo1 {σ : Sto} {n o gen : Nat} {nl : Bool} {cs : List AVal} {g : Fn} (hσ : σ[o]? = some (.cells nl cs)) (hl : cs.length = gen) (hp : AVal.pures cs = true) : snapA σ (n + 3) (.clo g [] [.ptr o gen 0]) = some (.clo g [] [.fptr cs]) := by
 have h0 : (AVal.clo g [] [.ptr o gen 0]).pure = false := by simp [AVal.names, AVal.namesL]
 rw [snapA, h0]
 simp only [Bool.false_eq_true, if_false, List.mapM_nil, Option.pure_def, List.mapM_cons, snapA_ptrN hσ hl hp, Option.bind_eq_bind, Option.bind_some]
theorem listsA3 {c : Int} {fb fo : SlF} {b o : List Int} : (AVal.list 1 [.list 1 [.int .i64 c], ints fb b, ints fo o]) = listsA [(.lst, [c]), (fb, b), (fo, o)] := by
 rw [listsA, sv_lst]
 simp only [List.map_cons, List.map_nil, sv_lst]

theorem compute_rest {kd c : Int} {fb fo f : SlF} {b o : List Int} {l : Rows} (hl : RowsFit l) (hw : winOk kd c b o l = true) (hodd : ¬ (kd = 3 ∧ (l.any fun p => oddC c p.2) = true)) :
  AllIn l b ∧ AllIn l o ∧ (∀ p ∈ l, 0 ≤ c ∧ c < p.2.length) ∧ b.length ≤ 8 ∧ o.length ≤ 8 := by
 simp only [winOk, Bool.and_eq_true, decide_eq_true_eq] at hw
 obtain ⟨⟨⟨⟨_, _⟩, h1⟩, h2⟩, ht⟩ := hw
 have hA := (tab_in ht).1
 exact ⟨fun p hp x hx => hA p hp x (by simp [hx]), fun p hp x hx => hA p hp x (by simp [hx]), fun p hp => hA p hp c (by simp), h1, h2⟩

theorem partFold_len {key : Int → List Val} : ∀ (s : List Int) (n : Int) (prev : Option (List Val)) (D : List Int), (partFold key n prev s D).length = D.length
 | [], _, _, D => rfl
 | i :: s, n, prev, D => by rw [partFold, partFold_len s]; simp

theorem X34_spec {f fb fo : SlF} {l : Rows} {kd c : Int} {b o : List Int} (hl : RowsFit l) {lv : List Nat} {σ : Sto} {R : Post} : Cw T true i_X34 [rowsA f l, winA kd c fb b fo o] lv σ R ↔ R (resV (computeR kd c b o l)) σ := by
 refine cw_intro T_X34 (by simp only [go_sem]) (by simp) ?_; rw [run_unfold X34.main.eq_1]
 have hl3 := hl.1
 unfold computeR
 by_cases h1 : kd < 1
 ·have hw : winOk kd c b o l = false := by simp [winOk, show ¬ (1 ≤ kd) by omega]
  rw [hw]
  simp (maxSteps := 2000000) only [go_sem, h1, resV]
 by_cases h2 : 4 < kd
 ·have hw : winOk kd c b o l = false := by simp [winOk, show ¬ (kd ≤ 4) by omega]
  rw [hw]
  simp (maxSteps := 2000000) only [go_sem, h1, h2, resV]
 by_cases h3 : (8 : Int) < b.length
 ·have hw : winOk kd c b o l = false := by simp [winOk, show ¬ (b.length ≤ 8) by omega]
  rw [hw]
  simp (maxSteps := 2000000) only [go_sem, h1, h2, h3, resV]
 by_cases h4 : (8 : Int) < o.length
 ·have hw : winOk kd c b o l = false := by simp [winOk, show ¬ (o.length ≤ 8) by omega]
  rw [hw]
  simp (maxSteps := 2000000) only [go_sem, h1, h2, h3, h4, resV]
 have hcat := @X24_call [(.lst, [c]), (fb, b), (fo, o)] (by simp [totL]; omega) (by simp [totL]) (by simp)
 have hfl : (([(SlF.lst, [c]), (fb, b), (fo, o)] : List (SlF × List Int)).flatMap (·.2)) = c :: (b ++ o) := by simp
 rw [hfl] at hcat
 have htab := @X41_call f .lst l (c :: (b ++ o)) hl (by unfold Fits; simp; omega)
 cases ht : tab l (c :: (b ++ o))
 ·have hw : winOk kd c b o l = false := by simp [winOk, ht]
  rw [hw]
  simp (maxSteps := 2000000) only [go_sem, h1, h2, h3, h4, listsA3, hcat, htab, ht, resV]
 have hw : winOk kd c b o l = true := by
  simp only [winOk, ht, Bool.and_true, Bool.and_eq_true, decide_eq_true_eq]
  refine ⟨⟨⟨by omega, by omega⟩, by omega⟩, by omega⟩
 have hA := (tab_in ht).1
 have hAb : AllIn l b := fun p hp x hx => hA p hp x (by simp [hx])
 have hAo : AllIn l o := fun p hp x hx => hA p hp x (by simp [hx])
 have hAc : ∀ p ∈ l, 0 ≤ c ∧ c < p.2.length := fun p hp => hA p hp c (by simp)
 have h5 : ¬ (4096 : Int) < l.length := by omega
 have hcont : ∀ {Q : Post3} {k : List Item} {os : List AOper} {d : Option Nat} {e : Env}, CallK T Q k os d e [.cells false (winC kd c fb b fo o)] true i_X11 [rowsA f l, .clo (.func i_X28) [] [.ptr 0 4 0]] ↔ Run T Q (.ops os :: k) (put e d (.bool (l.any fun x => oddC c x.2))) [.cells false (winC kd c fb b fo o)] := by
  intro Q k os d e
  refine callK_live T_X11 (as := [rowsA f l, .clo (.func i_X28) [] [.fptr (winC kd c fb b fo o)]]) (fun {lv σ R} => X11_spec (p := oddC c) hl (g := i_X28) (fs := []) (cs := [.fptr (winC kd c fb b fo o)]) (fun x hx => by intro lv σ R; exact X28_spec (hAc x hx)) rfl (by simp (maxSteps := 2000000) only [go_sem])) ?_ (by simp (maxSteps := 2000000) only [go_sem]) rfl
  have e1 : snapA [AObj.cells false (winC kd c fb b fo o)] snapDepth (rowsA f l) = some (rowsA f l) := snapA_pure sv_pure
  have e2 : snapA [AObj.cells false (winC kd c fb b fo o)] snapDepth (.clo (.func i_X28) [] [.ptr 0 4 0]) = some (.clo (.func i_X28) [] [.fptr (winC kd c fb b fo o)]) := snap_clo1 (n := 61) (nl := false) rfl rfl (by simp (maxSteps := 2000000) only [go_sem])
  simp only [List.mapM_cons, List.mapM_nil, e1, e2, Option.pure_def, Option.bind_eq_bind, Option.bind_some]
 rw [hw]
 have hs : ∀ x ∈ sortI l o, 0 ≤ x ∧ x < l.length := fun x hx => sortI_in hx
 have hloop := compute_loop (kd := kd) (c := c) (fb := fb) (fo := fo) (f := f) (fp := .lst) (b := b) (ord := o) (P := partI l b) hl (by rw [partI, partFold_len]; simp) (by omega)
  (fun x hx => by
   have hxl : x.toNat < l.length := by omega
   have h1 := hAc _ (List.getElem_mem hxl)
   have h2 := hAo _ (List.getElem_mem hxl)
   rw [rowN_int hx] at h1 h2
   exact ⟨h1, h2⟩) hs (sortI_len l o) 0 (by omega) [] (List.replicate l.length zV) (fun _ => St0)
  ⟨fun j h => absurd h (by simp), fun _ _ => rfl, fun i j hi => absurd hi (by simp)⟩ (fun y p hp => by simp [St0] at hp) (by simp)
 simp only [List.drop_zero] at hloop
 have hfz : cellsV (List.replicate l.length zV) = (List.replicate l.length z3).flatten := (flat_z3 _).symm
 have hfin : resV (match compF kd c o l (gdZ (partI l b)) (fun _ => St0) (sortI l o) (List.replicate l.length zV) with | some D => (some D, 0) | none => (none, 2)) = compV (compF kd c o l (gdZ (partI l b)) (fun _ => St0) (sortI l o) (List.replicate l.length zV)) := by
  cases compF kd c o l (gdZ (partI l b)) (fun _ => St0) (sortI l o) (List.replicate l.length zV) <;> rfl
 by_cases h6 : kd = 3
 ·cases hany : l.any fun x => oddC c x.2
  ·have hno : ¬ (kd = 3 ∧ (false = true)) := by simp
   rw [if_pos rfl, if_neg hno, hfin]
   subst h6
   simp (maxSteps := 2000000) only [go_sem, h1, h2, h3, h4, listsA3, hcat, htab, ht, h5, hcont, hany, X26_call hl (show b.length < 1000000 by omega) hAb, X38_call hl (show o.length < 1000000 by omega) hAo, mk_gen (show l.length * 32 ≤ 100000000 by omega) (by decide), flat_z3]
   exact hloop
  ·rw [if_pos rfl, if_pos ⟨h6, rfl⟩]
   subst h6
   simp (maxSteps := 2000000) only [go_sem, h1, h2, h3, h4, listsA3, hcat, htab, ht, h5, hcont, hany, resV]
 ·have hno : ¬ (kd = 3 ∧ ((l.any fun x => oddC c x.2) = true)) := fun h => h6 h.1
  rw [if_pos rfl, if_neg hno, hfin]
  simp (maxSteps := 2000000) only [go_sem, h1, h2, h3, h4, listsA3, hcat, htab, ht, h5, h6, X26_call hl (show b.length < 1000000 by omega) hAb, X38_call hl (show o.length < 1000000 by omega) hAo, mk_gen (show l.length * 32 ≤ 100000000 by omega) (by decide), flat_z3]
  exact hloop
@[go_sem] theorem X34_call {f fb fo : SlF} {l : Rows} {kd c : Int} {b o : List Int} (hl : RowsFit l) {Q : Post3} {k : List Item} {os : List AOper} {d : Option Nat} {e : Env} {σ : Sto} : CallK T Q k os d e σ true i_X34 [rowsA f l, winA kd c fb b fo o] ↔ Run T Q (.ops os :: k) (put e d (resV (computeR kd c b o l))) σ := X34_spec hl


abbrev compA (r : Option (List Val) × Int) : AVal := .agg [rowA (fnd r.1) (r.1.getD []), .nils, .nils, .int .i64 r.2]
theorem X45_spec {f fb fo : SlF} {l : Rows} {kd c : Int} {b o : List Int} (hl : RowsFit l) {lv : List Nat} {σ : Sto} {R : Post} : Cw T true i_X45 [rowsA f l, winA kd c fb b fo o] lv σ R ↔ R (compA (computeR kd c b o l)) σ := by
 refine cw_intro T_X45 (by simp only [go_sem]) (by simp) ?_; rw [run_unfold X45.main.eq_1]
 cases hr : computeR kd c b o l with
 | mk r e =>
  cases r with
  | none =>
   simp (maxSteps := 2000000) only [go_sem, X34_call hl, hr, resV, fnd, Option.getD_none]
   rfl
  | some D =>
   simp (maxSteps := 2000000) only [go_sem, X34_call hl, hr, resV, fnd, Option.getD_some]
@[go_sem] theorem X45_call {f fb fo : SlF} {l : Rows} {kd c : Int} {b o : List Int} (hl : RowsFit l) {Q : Post3} {k : List Item} {os : List AOper} {d : Option Nat} {e : Env} {σ : Sto} : CallK T Q k os d e σ true i_X45 [rowsA f l, winA kd c fb b fo o] ↔ Run T Q (.ops os :: k) (put e d (compA (computeR kd c b o l))) σ := X45_spec hl

end Go.Abs
/- Walks of chapter 42: the reference's values, rows and windows. -/
set_option linter.unusedSimpArgs false
set_option linter.unusedVariables false
namespace Go.Abs
open Go
attribute [local go_sem_proc] Nat.reduceLT Nat.reduceEqDiff Nat.reduceLeDiff Nat.reduceAdd Nat.reduceSub Nat.reduceMul Int.reduceLT Int.reduceLE Int.reduceEq Int.reduceNeg
attribute [local go_sem_proc ↓] reduceIte

theorem X66_spec {n : Int} {lv : List Nat} {σ : Sto} {R : Post} : Cw T true i_X66 [.int .i64 n] lv σ R ↔ R (vA ⟨2, n, ⟨#[]⟩⟩) σ := by
 refine cw_intro T_X66 (by simp only [go_sem]) (by simp) ?_; rw [run_unfold X66.main.eq_1]
 simp (maxSteps := 2000000) only [go_sem]
@[go_sem] theorem X66_call {n : Int} {Q : Post3} {k : List Item} {os : List AOper} {d : Option Nat} {e : Env} {σ : Sto} : CallK T Q k os d e σ true i_X66 [.int .i64 n] ↔ Run T Q (.ops os :: k) (put e d (vA ⟨2, n, ⟨#[]⟩⟩)) σ := X66_spec

theorem X53_spec {n : Int} {lv : List Nat} {σ : Sto} {R : Post} : Cw T true i_X53 [.int .i64 n] lv σ R ↔ R (vA (numV n)) σ := by
 refine cw_intro T_X53 (by simp only [go_sem]) (by simp) ?_; rw [run_unfold X53.main.eq_1]
 simp (maxSteps := 2000000) only [go_sem, numV]
@[go_sem] theorem X53_call {n : Int} {Q : Post3} {k : List Item} {os : List AOper} {d : Option Nat} {e : Env} {σ : Sto} : CallK T Q k os d e σ true i_X53 [.int .i64 n] ↔ Run T Q (.ops os :: k) (put e d (vA (numV n))) σ := X53_spec

theorem X62_spec  {lv : List Nat} {σ : Sto} {R : Post} : Cw T true i_X62 [] lv σ R ↔ R (vA zV) σ := by
 refine cw_intro T_X62 (by simp only [go_sem]) (by simp) ?_; rw [run_unfold X62.main.eq_1]
 simp (maxSteps := 2000000) only [go_sem, zV]
@[go_sem] theorem X62_call  {Q : Post3} {k : List Item} {os : List AOper} {d : Option Nat} {e : Env} {σ : Sto} : CallK T Q k os d e σ true i_X62 [] ↔ Run T Q (.ops os :: k) (put e d (vA zV)) σ := X62_spec

theorem X64_spec {s : ByteArray} {lv : List Nat} {σ : Sto} {R : Post} : Cw T true i_X64 [.str s] lv σ R ↔ R (vA ⟨3, 0, s⟩) σ := by
 refine cw_intro T_X64 (by simp only [go_sem]) (by simp) ?_; rw [run_unfold X64.main.eq_1]
 simp (maxSteps := 2000000) only [go_sem]
@[go_sem] theorem X64_call {s : ByteArray} {Q : Post3} {k : List Item} {os : List AOper} {d : Option Nat} {e : Env} {σ : Sto} : CallK T Q k os d e σ true i_X64 [.str s] ↔ Run T Q (.ops os :: k) (put e d (vA ⟨3, 0, s⟩)) σ := X64_spec

theorem X58_spec {b : Bool} {lv : List Nat} {σ : Sto} {R : Post} : Cw T true i_X58 [.bool b] lv σ R ↔ R (vA ⟨1, if b = true then 1 else 0, ⟨#[]⟩⟩) σ := by
 refine cw_intro T_X58 (by simp only [go_sem]) (by simp) ?_; rw [run_unfold X58.main.eq_1]
 cases b
 ·simp (maxSteps := 2000000) only [go_sem]
 ·simp (maxSteps := 2000000) only [go_sem]
@[go_sem] theorem X58_call {b : Bool} {Q : Post3} {k : List Item} {os : List AOper} {d : Option Nat} {e : Env} {σ : Sto} : CallK T Q k os d e σ true i_X58 [.bool b] ↔ Run T Q (.ops os :: k) (put e d (vA ⟨1, if b = true then 1 else 0, ⟨#[]⟩⟩)) σ := X58_spec


theorem X65_loop {f g h : SlF} {a b : List Val} {by_ : List Int} (hb : Fits by_) (ha : InC a by_) (hbb : InC b by_) (hsa : ∀ v ∈ a, Short v) (hsb : ∀ v ∈ b, Short v) : ∀ i, i ≤ by_.length →
  Run T (Res [.tmp 6] (.int .i64 (cmpR ((pickC a by_).drop i) ((pickC b by_).drop i)))) (.inLoop X65.b0 :: X65.k0) (mkE 33 [(0, rowA f a), (1, rowA g b), (2, ints h by_), (7, .int .i64 i)]) [] := by
 refine up_ind ?_ fun i hi ih => ?_
 ·rw [run_round, run_unfold X65.b0.eq_1]
  rw [List.drop_eq_nil_of_le (by rw [pickC_len]; omega), List.drop_eq_nil_of_le (by rw [pickC_len]; omega)]
  simp (maxSteps := 2000000) only [go_sem, run_unfold X65.c0.eq_1, run_unfold X65.c1.eq_1, X65.k0, cmpR]
 ·rw [run_round, run_unfold X65.b0.eq_1]
  have e1 : i < (pickC a by_).length := by rw [pickC_len]; exact hi
  have e2 : i < (pickC b by_).length := by rw [pickC_len]; exact hi
  rw [List.drop_eq_getElem_cons e1, List.drop_eq_getElem_cons e2]
  have h1 := ha _ (List.getElem_mem hi)
  have h2 := hbb _ (List.getElem_mem hi)
  have p1 : (pickC a by_)[i] = colN a by_[i] := by simp only [pickC, List.getElem_map]; rfl
  have p2 : (pickC b by_)[i] = colN b by_[i] := by simp only [pickC, List.getElem_map]; rfl
  rw [p1, p2]
  have g1 := @iaddrV_int' 3 f Val (fun v => .agg [.int .i64 v.k, .int .i64 v.i, .str v.s]) a .i64 by_[i] ([] : Sto) h1
  have g2 := @iaddrV_int' 3 g Val (fun v => .agg [.int .i64 v.k, .int .i64 v.i, .str v.s]) b .i64 by_[i] ([] : Sto) h2
  have s1 := hsa _ (List.getElem_mem (show (by_[i]).toNat < a.length by omega))
  have s2 := hsb _ (List.getElem_mem (show (by_[i]).toNat < b.length by omega))
  rw [colN_get h1] at g1 s1
  rw [colN_get h2] at g2 s2
  have hc := @X68_call (colN a by_[i]) (colN b by_[i]) s1 s2
  by_cases he : cmpV (colN a by_[i]) (colN b by_[i]) = 0
  ·simp (maxSteps := 2000000) only [go_sem, hi, g1, g2, hc, he, cmpR, wrap_succ (show i < 9223372036854775807 by omega)]
   exact ih
  ·simp (maxSteps := 2000000) only [go_sem, hi, g1, g2, hc, he, cmpR]
theorem X65_spec {f g h : SlF} {a b : List Val} {by_ : List Int} (hb : Fits by_) (ha : InC a by_) (hbb : InC b by_) (hsa : ∀ v ∈ a, Short v) (hsb : ∀ v ∈ b, Short v) {lv : List Nat} {σ : Sto} {R : Post} : Cw T true i_X65 [rowA f a, rowA g b, ints h by_] lv σ R ↔ R (.int .i64 (cmpR (pickC a by_) (pickC b by_))) σ := by
 refine cw_intro T_X65 (by simp only [go_sem]) (by simp) ?_; rw [run_unfold X65.main.eq_1]
 have := X65_loop (f := f) (g := g) (h := h) hb ha hbb hsa hsb 0 (by omega)
 simp only [List.drop_zero] at this
 simp (maxSteps := 2000000) only [go_sem]
 exact this
@[go_sem] theorem X65_call {f g h : SlF} {a b : List Val} {by_ : List Int} (hb : Fits by_) (ha : InC a by_) (hbb : InC b by_) (hsa : ∀ v ∈ a, Short v) (hsb : ∀ v ∈ b, Short v) {Q : Post3} {k : List Item} {os : List AOper} {d : Option Nat} {e : Env} {σ : Sto} : CallK T Q k os d e σ true i_X65 [rowA f a, rowA g b, ints h by_] ↔ Run T Q (.ops os :: k) (put e d (.int .i64 (cmpR (pickC a by_) (pickC b by_)))) σ := X65_spec hb ha hbb hsa hsb


abbrev B4 := Nat × Nat × Nat × Nat
abbrev b4A (k : B4) : AVal := .agg [.int .u8 (k.1 : Int), .int .u8 (k.2.1 : Int), .int .u8 (k.2.2.1 : Int), .int .u8 (k.2.2.2 : Int)]
def B4Ok (k : B4) : Prop := k.1 < 256 ∧ k.2.1 < 256 ∧ k.2.2.1 < 256 ∧ k.2.2.2 < 256
theorem rem_lit (a m : Nat) : Int.tmod (a : Int) (m : Int) = ((a % m : Nat) : Int) := rfl
theorem conv_lit {a : Nat} (h : a < 1000000) : IntKind.i64.wrap (a : Int) = (a : Int) := wrap_i64 (by omega) (by omega)

@[go_sem] theorem iaA0 {o gen off : Nat} {σ : Sto} : iaddrAV 4 1 (.ptr o gen off) (.int .i64 0) σ = some (.ptr o gen (off + 0), σ) := rfl
@[go_sem] theorem iaA1 {o gen off : Nat} {σ : Sto} : iaddrAV 4 1 (.ptr o gen off) (.int .i64 1) σ = some (.ptr o gen (off + 1), σ) := rfl
@[go_sem] theorem iaA2 {o gen off : Nat} {σ : Sto} : iaddrAV 4 1 (.ptr o gen off) (.int .i64 2) σ = some (.ptr o gen (off + 2), σ) := rfl
@[go_sem] theorem iaA3 {o gen off : Nat} {σ : Sto} : iaddrAV 4 1 (.ptr o gen off) (.int .i64 3) σ = some (.ptr o gen (off + 3), σ) := rfl
def takeC : Nat → Nat → List Int
 | 0, _ => []
 | n + 1, v => ((v / 4 % 4 : Nat) : Int) :: takeC n (v / 2)
theorem takeC_len : ∀ n v, (takeC n v).length = n
 | 0, _ => rfl
 | n + 1, v => by simp [takeC, takeC_len n]
theorem takeC_in : ∀ n v, ∀ c ∈ takeC n v, 0 ≤ c ∧ c < 4
 | 0, _, c, h => by simp [takeC] at h
 | n + 1, v, c, h => by
  simp only [takeC, List.mem_cons] at h
  rcases h with rfl | h
  ·omega
  ·exact takeC_in n _ c h
def winCol (kind : Int) (k : B4) : Int := if kind = 3 then ((k.1 % 2 : Nat) : Int) else ((k.1 % 4 : Nat) : Int)
def winBy (k : B4) : List Int := takeC (k.2.1 % 3) k.2.2.1
def winOrd (k : B4) : List Int := takeC (k.2.1 / 3 % 3) k.2.2.2

theorem snap_nl {n o : Nat} {σ : Sto} {c : List Int} (hσ : σ[o]? = some (.cells true (c.map fun n => AVal.int .i64 n))) : snapA σ (n + 2) (.ref o c.length 0 c.length 1) = some (sv 1 .nil (c.map fun n => AVal.int .i64 n)) := by
 have h0 : (AVal.ref o c.length 0 c.length 1).pure = false := by simp [AVal.names]
 rw [snapA, h0]
 simp only [Bool.false_eq_true, if_false, hσ, List.length_map, Nat.mul_one, Nat.zero_add, Nat.le_refl, true_and, Nat.lt_add_one, if_true, List.drop_zero]
 cases c with
 | nil => rfl
 | cons a c =>
  have htake : (((a :: c).map fun n => AVal.int .i64 n).take (a :: c).length) = (a :: c).map fun n => AVal.int .i64 n := List.take_of_length_le (by simp)
  rw [htake, mapM_snapN v_names_ints]
  have := chunk_one ((a :: c).map fun n => AVal.int .i64 n)
  rw [List.length_map] at this
  simp only [List.map_cons, List.isEmpty_cons, Bool.and_false, Bool.false_eq_true, if_false, Option.map_some] at this ⊢
  rw [this]
  rfl

abbrev nlO (B : List Int) : AObj := .cells true (B.map fun n => .int .i64 n)
abbrev kO (k0 k1 k2 k3 : Nat) : AObj := .cells false [.int .u8 (k0 : Int), .int .u8 (k1 : Int), .int .u8 (k2 : Int), .int .u8 (k3 : Int)]
abbrev wO (kind C : Int) (m n : Nat) : AObj := .cells false [.int .i64 kind, .int .i64 C, .ref 2 m 0 m 1, .ref 3 n 0 n 1]

theorem X67_loop1 {kind C : Int} {k0 k1 k2 : Nat} {Z : AObj} (hZ : Z = .cells false [.int .i64 0, .int .i64 0, .nils, .nils]) {B : List Int} (hb : B.length < 10) (hk1 : k1 < 256) : ∀ (r i : Nat) (O : List Int) (v : Nat), i + r = k1 / 3 % 3 → O.length = i → v < 256 →
  Run T (Res [.cell 4 true 4] (winA kind C .nil B .nil (O ++ takeC r v))) (.inLoop X67.b1 :: X67.k1) (mkE 67 [(3, .ptr 0 4 0), (4, .ptr 1 4 0), (5, .ptr 4 4 0), (7, .int .i64 i)]) [kO k0 k1 k2 v, Z, nlO B, nlO O, wO kind C B.length i] := by
 intro r
 induction r with
 | zero =>
  intro i O v hi hO hv
  rw [run_round, run_unfold X67.b1.eq_1]
  subst hZ
  have e1 : IntKind.u8.wrap (Int.tdiv (k1 : Int) 3) = ((k1 / 3 : Nat) : Int) := wrap_quo (k := 3) hk1
  have e2 : Int.tmod ((k1 / 3 : Nat) : Int) 3 = ((k1 / 3 % 3 : Nat) : Int) := rfl
  have e3 := conv_lit (a := k1 / 3 % 3) (by omega)
  have hlt : ¬ i < k1 / 3 % 3 := by omega
  have hsB := snap_nl (n := 61) (o := 2) (σ := [kO k0 k1 k2 v, .cells false [.int .i64 kind, .int .i64 C, .ref 2 B.length 0 B.length 1, .ref 3 i 0 i 1], nlO B, nlO O, wO kind C B.length i]) (c := B) rfl
  have hsO := snap_nl (n := 61) (o := 3) (σ := [kO k0 k1 k2 v, .cells false [.int .i64 kind, .int .i64 C, .ref 2 B.length 0 B.length 1, .ref 3 i 0 i 1], nlO B, nlO O, wO kind C B.length i]) (c := O) rfl
  rw [hO] at hsO
  simp (maxSteps := 2000000) only [go_sem, run_unfold X67.c0.eq_1, run_unfold X67.c1.eq_1, run_unfold X67.c2.eq_1, X67.k0, X67.k1, e1, e2, e3, hlt, takeC, List.append_nil, hsB, hsO]
 | succ r ih =>
  intro i O v hi hO hv
  rw [run_round, run_unfold X67.b1.eq_1]
  have e1 : IntKind.u8.wrap (Int.tdiv (k1 : Int) 3) = ((k1 / 3 : Nat) : Int) := wrap_quo (k := 3) hk1
  have e2 : Int.tmod ((k1 / 3 : Nat) : Int) 3 = ((k1 / 3 % 3 : Nat) : Int) := rfl
  have e3 := conv_lit (a := k1 / 3 % 3) (by omega)
  have hlt : i < k1 / 3 % 3 := by omega
  have f1 : IntKind.u8.wrap (Int.tdiv (v : Int) 4) = ((v / 4 : Nat) : Int) := wrap_quo (k := 4) hv
  have f2 := conv_lit (a := v / 4) (by omega)
  have f3 : Int.tmod ((v / 4 : Nat) : Int) 4 = ((v / 4 % 4 : Nat) : Int) := rfl
  have f4 : IntKind.u8.wrap (Int.tdiv (v : Int) 2) = ((v / 2 : Nat) : Int) := wrap_quo (k := 2) hv
  have ha : appendV 1 8 (.ref 3 i 0 i 1) (.ref 5 1 0 1 1) [kO k0 k1 k2 v, Z, nlO B, nlO O, wO kind C B.length i, .cells false [.int .i64 ((v / 4 % 4 : Nat) : Int)]] = some (.ref 3 (i + 1) 0 (i + 1) 1, [kO k0 k1 k2 v, Z, nlO B, nlO (O ++ [((v / 4 % 4 : Nat) : Int)]), wO kind C B.length i, .cells false [.int .i64 ((v / 4 % 4 : Nat) : Int)]]) := by
   rw [appendV_push (o := 3) (o' := 5) (nl := true) (nl' := false) (cs := O.map fun n => .int .i64 n) (v := .int .i64 ((v / 4 % 4 : Nat) : Int)) rfl rfl (by simpa using hO) rfl (by simp only [maxBytes]; omega)]
   simp [nlO]
  have ih' := ih (i + 1) (O ++ [((v / 4 % 4 : Nat) : Int)]) (v / 2) (by omega) (by simp [hO]) (by omega)
  have et : O ++ [((v / 4 % 4 : Nat) : Int)] ++ takeC r (v / 2) = O ++ takeC (r + 1) v := by simp [takeC]
  rw [et] at ih'
  subst hZ
  simp (maxSteps := 2000000) only [go_sem, run_unfold X67.c0.eq_1, run_unfold X67.c1.eq_1, run_unfold X67.c2.eq_1, X67.k0, X67.k1, e1, e2, e3, hlt, f1, f2, f3, f4, ha, wrap_succ (show i < 9223372036854775807 by omega)]
  exact ih'

theorem X67_loop0 {kind C : Int} {k0 k1 k3 : Nat} {Z : AObj} (hZ : Z = .cells false [.int .i64 0, .int .i64 0, .nils, .nils]) (hk1 : k1 < 256) (hk3 : k3 < 256) : ∀ (r i : Nat) (O : List Int) (v : Nat), i + r = k1 % 3 → O.length = i → v < 256 →
  Run T (Res [.cell 4 true 4] (winA kind C .nil (O ++ takeC r v) .nil (takeC (k1 / 3 % 3) k3))) (.inLoop X67.b0 :: X67.k0) (mkE 67 [(3, .ptr 0 4 0), (4, .ptr 1 4 0), (5, .ptr 4 4 0), (6, .int .i64 i)]) [kO k0 k1 v k3, Z, nlO O, nlO [], wO kind C i 0] := by
 intro r
 induction r with
 | zero =>
  intro i O v hi hO hv
  rw [run_round, run_unfold X67.b0.eq_1]
  have e2 : Int.tmod (k1 : Int) 3 = ((k1 % 3 : Nat) : Int) := rfl
  have e3 := conv_lit (a := k1 % 3) (by omega)
  have hlt : ¬ i < k1 % 3 := by omega
  have := X67_loop1 (kind := kind) (C := C) (k0 := k0) (k1 := k1) (k2 := v) hZ (B := O) (by omega) hk1 (k1 / 3 % 3) 0 [] k3 (by omega) rfl hk3
  rw [hO, List.nil_append] at this
  subst hZ
  simp (maxSteps := 2000000) only [go_sem, run_unfold X67.c0.eq_1, run_unfold X67.c1.eq_1, run_unfold X67.c2.eq_1, X67.k0, X67.k1, e2, e3, hlt, takeC, List.append_nil]
  exact this
 | succ r ih =>
  intro i O v hi hO hv
  rw [run_round, run_unfold X67.b0.eq_1]
  have e2 : Int.tmod (k1 : Int) 3 = ((k1 % 3 : Nat) : Int) := rfl
  have e3 := conv_lit (a := k1 % 3) (by omega)
  have hlt : i < k1 % 3 := by omega
  have f1 : IntKind.u8.wrap (Int.tdiv (v : Int) 4) = ((v / 4 : Nat) : Int) := wrap_quo (k := 4) hv
  have f2 := conv_lit (a := v / 4) (by omega)
  have f3 : Int.tmod ((v / 4 : Nat) : Int) 4 = ((v / 4 % 4 : Nat) : Int) := rfl
  have f4 : IntKind.u8.wrap (Int.tdiv (v : Int) 2) = ((v / 2 : Nat) : Int) := wrap_quo (k := 2) hv
  have ha : appendV 1 8 (.ref 2 i 0 i 1) (.ref 5 1 0 1 1) [kO k0 k1 v k3, Z, nlO O, nlO [], wO kind C i 0, .cells false [.int .i64 ((v / 4 % 4 : Nat) : Int)]] = some (.ref 2 (i + 1) 0 (i + 1) 1, [kO k0 k1 v k3, Z, nlO (O ++ [((v / 4 % 4 : Nat) : Int)]), nlO [], wO kind C i 0, .cells false [.int .i64 ((v / 4 % 4 : Nat) : Int)]]) := by
   rw [appendV_push (o := 2) (o' := 5) (nl := true) (nl' := false) (cs := O.map fun n => .int .i64 n) (v := .int .i64 ((v / 4 % 4 : Nat) : Int)) rfl rfl (by simpa using hO) rfl (by simp only [maxBytes]; omega)]
   simp [nlO]
  have ih' := ih (i + 1) (O ++ [((v / 4 % 4 : Nat) : Int)]) (v / 2) (by omega) (by simp [hO]) (by omega)
  have et : O ++ [((v / 4 % 4 : Nat) : Int)] ++ takeC r (v / 2) = O ++ takeC (r + 1) v := by simp [takeC]
  rw [et] at ih'
  subst hZ
  simp (maxSteps := 2000000) only [go_sem, run_unfold X67.c0.eq_1, run_unfold X67.c1.eq_1, run_unfold X67.c2.eq_1, X67.k0, X67.k1, e2, e3, hlt, f1, f2, f3, f4, ha, wrap_succ (show i < 9223372036854775807 by omega)]
  exact ih'

theorem X67_spec {kind : Int} {q : B4} (hq : B4Ok q) {lv : List Nat} {σ : Sto} {R : Post} : Cw T true i_X67 [.int .i64 kind, b4A q] lv σ R ↔ R (winA kind (winCol kind q) .nil (winBy q) .nil (winOrd q)) σ := by
 refine cw_intro T_X67 (by simp only [go_sem]) (by simp) ?_; rw [run_unfold X67.main.eq_1]
 obtain ⟨k0, k1, k2, k3⟩ := q
 obtain ⟨h0, h1, h2, h3⟩ : k0 < 256 ∧ k1 < 256 ∧ k2 < 256 ∧ k3 < 256 := hq
 have := X67_loop0 (kind := kind) (C := winCol kind (k0, k1, k2, k3)) (k0 := k0) rfl h1 h3 (k1 % 3) 0 [] k2 (by omega) rfl h2
 rw [List.nil_append] at this
 have g1 : Int.tmod (k0 : Int) 4 = ((k0 % 4 : Nat) : Int) := rfl
 have g2 := conv_lit (a := k0 % 4) (by omega)
 have g3 : Int.tmod (k0 : Int) 2 = ((k0 % 2 : Nat) : Int) := rfl
 have g4 := conv_lit (a := k0 % 2) (by omega)
 by_cases hk3 : kind = 3
 ·rw [show winCol kind (k0, k1, k2, k3) = ((k0 % 2 : Nat) : Int) from if_pos hk3] at this ⊢
  subst hk3
  simp (maxSteps := 2000000) only [go_sem, g1, g2, g3, g4, run_unfold X67.c0.eq_1, run_unfold X67.c1.eq_1, run_unfold X67.c2.eq_1, X67.k0, X67.k1]
  exact this
 ·rw [show winCol kind (k0, k1, k2, k3) = ((k0 % 4 : Nat) : Int) from if_neg hk3] at this ⊢
  simp (maxSteps := 2000000) only [go_sem, g1, g2, hk3, run_unfold X67.c0.eq_1, run_unfold X67.c1.eq_1, run_unfold X67.c2.eq_1, X67.k0, X67.k1]
  exact this
@[go_sem] theorem X67_call {kind : Int} {q : B4} (hq : B4Ok q) {Q : Post3} {k : List Item} {os : List AOper} {d : Option Nat} {e : Env} {σ : Sto} : CallK T Q k os d e σ true i_X67 [.int .i64 kind, b4A q] ↔ Run T Q (.ops os :: k) (put e d (winA kind (winCol kind q) .nil (winBy q) .nil (winOrd q))) σ := X67_spec hq


def strOf (n : Nat) : ByteArray := if n = 0 then ⟨#[97]⟩ else if n = 1 then ⟨#[98]⟩ else ⟨#[]⟩
def mkRow (k : B4) : List Val := [numV ((k.1 % 3 : Nat) : Int), if k.2.1 % 5 = 0 then zV else numV (((k.2.1 % 7 : Nat) : Int) - 2), ⟨3, 0, strOf (k.2.2.1 % 3)⟩, ⟨1, if k.2.2.2 % 2 = 1 then 1 else 0, ⟨#[]⟩⟩]
abbrev l4A (f : SlF) (l : List B4) : AVal := sv 4 f (l.map fun k => .agg [.int .u8 (k.1 : Int), .int .u8 (k.2.1 : Int), .int .u8 (k.2.2.1 : Int), .int .u8 (k.2.2.2 : Int)])
def mkRows (l : List B4) : Rows := (l.take 16).map fun k => (.lst, mkRow k)
theorem strOf_load {j : Nat} (h : j < 3) : loadA false 1 (List.drop j [AVal.str ⟨#[97]⟩, AVal.str ⟨#[98]⟩, AVal.str ⟨#[]⟩]) = some (.str (strOf j)) := by
 rcases (by omega : j = 0 ∨ j = 1 ∨ j = 2) with rfl | rfl | rfl <;> rfl
abbrev rcell (r : List Val) : AVal := sv 3 .lst (r.map fun v => .agg [.int .i64 v.k, .int .i64 v.i, .str v.s])
theorem snap_rows {n o : Nat} {σ : Sto} {X : List (List Val)} (hσ : σ[o]? = some (.cells false (X.map rcell))) : snapA σ (n + 2) (.ref o X.length 0 X.length 1) = some (rowsA .lst (X.map fun r => (.lst, r))) := by
 rw [snapA_refN hσ (by simp) (by simp) (by decide) (v_names_map (fun _ => sv_pure) X)]
 have := chunk_one (X.map rcell)
 rw [List.length_map] at this
 rw [this, rowsA, sv_lst, List.map_map]
 rfl

theorem X60_loop {f : SlF} {l : List B4} (hl : l.length < 9223372036854775808) (hb : ∀ k ∈ l, B4Ok k) : ∀ (r i : Nat), min 16 l.length = i + r →
  Run T (Res [.tmp 2] (rowsA .lst (mkRows l))) (.inLoop X60.b0 :: X60.k0) (mkE 56 [(0, l4A f l), (3, .ref 0 i 0 i 1), (4, .int .i64 i)]) [.cells false (((l.take i).map mkRow).map rcell)] := by
 intro r
 induction r with
 | zero =>
  intro i hi
  rw [run_round, run_unfold X60.b0.eq_1]
  have hs := snap_rows (n := 62) (o := 0) (σ := [.cells false (((l.take i).map mkRow).map rcell)]) (X := (l.take i).map mkRow) rfl
  have hlen : ((l.take i).map mkRow).length = i := by rw [List.length_map, List.length_take]; omega
  rw [hlen] at hs
  have hR : ((l.take i).map mkRow).map (fun r => (SlF.lst, r)) = mkRows l := by
   unfold mkRows
   rw [List.map_map]
   have : l.take i = l.take 16 := by
    rcases (by omega : i = 16 ∨ (i = l.length ∧ l.length ≤ 16)) with rfl | ⟨rfl, h⟩
    ·rfl
    ·rw [List.take_of_length_le (Nat.le_refl _), List.take_of_length_le h]
   rw [this]; rfl
  rw [hR] at hs
  by_cases h1 : i < l.length
  ·have h2 : ¬ (i : Int) < 16 := by omega
   simp (maxSteps := 2000000) only [go_sem, h1, h2, run_unfold X60.c0.eq_1, run_unfold X60.c1.eq_1, run_unfold X60.c2.eq_1, X60.k0, hs]
  ·simp (maxSteps := 2000000) only [go_sem, h1, run_unfold X60.c0.eq_1, run_unfold X60.c1.eq_1, run_unfold X60.c2.eq_1, X60.k0, hs]
 | succ r ih =>
  intro i hi
  rw [run_round, run_unfold X60.b0.eq_1]
  have h1 : i < l.length := by omega
  have h2 : (i : Int) < 16 := by omega
  have hk := hb _ (List.getElem_mem h1)
  have htk : l.take (i + 1) = l.take i ++ [l[i]] := List.take_succ_eq_append_getElem h1
  have ih' := ih (i + 1) (by omega)
  rw [htk] at ih'
  generalize hq : l[i] = q at hk ih'
  obtain ⟨k0, k1, k2, k3⟩ := q
  obtain ⟨b0, b1, b2, b3⟩ : k0 < 256 ∧ k1 < 256 ∧ k2 < 256 ∧ k3 < 256 := hk
  have e0 : Int.tmod (k0 : Int) 3 = ((k0 % 3 : Nat) : Int) := rfl
  have e1 : Int.tmod (k1 : Int) 7 = ((k1 % 7 : Nat) : Int) := rfl
  have e2 : Int.tmod (k1 : Int) 5 = ((k1 % 5 : Nat) : Int) := rfl
  have e3 : Int.tmod (k2 : Int) 3 = ((k2 % 3 : Nat) : Int) := rfl
  have e4 : Int.tmod (k3 : Int) 2 = ((k3 % 2 : Nat) : Int) := rfl
  have c0 := conv_lit (a := k0 % 3) (by omega)
  have c1 := conv_lit (a := k1 % 7) (by omega)
  have c2 : IntKind.i64.wrap (((k1 % 7 : Nat) : Int) - 2) = ((k1 % 7 : Nat) : Int) - 2 := wrap_i64 (by omega) (by omega)
  have l3 := strOf_load (j := k2 % 3) (by omega)
  have hlt3 : k2 % 3 < 3 := by omega
  have hapx : ((l.take i).map mkRow).map rcell ++ [rcell (mkRow (k0, k1, k2, k3))] = ((l.take i ++ [(k0, k1, k2, k3)]).map mkRow).map rcell := by simp
  by_cases h5 : k1 % 5 = 0
  ·have h5' : ((k1 % 5 : Nat) : Int) = 0 := by omega
   by_cases h6 : k3 % 2 = 1
   ·have h6' : ((k3 % 2 : Nat) : Int) = 1 := by omega
    have hrow : mkRow (k0, k1, k2, k3) = [numV ((k0 % 3 : Nat) : Int), zV, ⟨3, 0, strOf (k2 % 3)⟩, ⟨1, 1, ⟨#[]⟩⟩] := by simp [mkRow, h5, h6]
    rw [hrow] at hapx
    rw [← hapx] at ih'
    simp (maxSteps := 2000000) only [go_sem, h1, h2, hq, e0, e1, e2, e3, e4, c0, c1, c2, l3, hlt3, h5', h6', Nat.zero_add, Nat.mul_one, iaddrV_ref, run_unfold X60.c0.eq_1, run_unfold X60.c1.eq_1, run_unfold X60.c2.eq_1, X60.k0]
    rw [appendV_push (nl := false) (nl' := false) rfl rfl (by simp only [List.length_map, List.length_take]; omega) rfl (by simp only [maxBytes]; omega)]
    simp (maxSteps := 2000000) only [go_sem, run_unfold X60.c0.eq_1, run_unfold X60.c1.eq_1, run_unfold X60.c2.eq_1, X60.k0, wrap_succ (show i < 9223372036854775807 by omega)]
    exact ⟨v_names_map (fun _ => sv_pure) _, ih'⟩
   ·have h6' : ¬ ((k3 % 2 : Nat) : Int) = 1 := by omega
    have hrow : mkRow (k0, k1, k2, k3) = [numV ((k0 % 3 : Nat) : Int), zV, ⟨3, 0, strOf (k2 % 3)⟩, ⟨1, 0, ⟨#[]⟩⟩] := by simp [mkRow, h5, h6]
    rw [hrow] at hapx
    rw [← hapx] at ih'
    simp (maxSteps := 2000000) only [go_sem, h1, h2, hq, e0, e1, e2, e3, e4, c0, c1, c2, l3, hlt3, h5', h6', Nat.zero_add, Nat.mul_one, iaddrV_ref, run_unfold X60.c0.eq_1, run_unfold X60.c1.eq_1, run_unfold X60.c2.eq_1, X60.k0]
    rw [appendV_push (nl := false) (nl' := false) rfl rfl (by simp only [List.length_map, List.length_take]; omega) rfl (by simp only [maxBytes]; omega)]
    simp (maxSteps := 2000000) only [go_sem, run_unfold X60.c0.eq_1, run_unfold X60.c1.eq_1, run_unfold X60.c2.eq_1, X60.k0, wrap_succ (show i < 9223372036854775807 by omega)]
    exact ⟨v_names_map (fun _ => sv_pure) _, ih'⟩
  ·have h5' : ¬ ((k1 % 5 : Nat) : Int) = 0 := by omega
   by_cases h6 : k3 % 2 = 1
   ·have h6' : ((k3 % 2 : Nat) : Int) = 1 := by omega
    have hrow : mkRow (k0, k1, k2, k3) = [numV ((k0 % 3 : Nat) : Int), numV (((k1 % 7 : Nat) : Int) - 2), ⟨3, 0, strOf (k2 % 3)⟩, ⟨1, 1, ⟨#[]⟩⟩] := by simp [mkRow, h5, h6]
    rw [hrow] at hapx
    rw [← hapx] at ih'
    simp (maxSteps := 2000000) only [go_sem, h1, h2, hq, e0, e1, e2, e3, e4, c0, c1, c2, l3, hlt3, h5', h6', Nat.zero_add, Nat.mul_one, iaddrV_ref, run_unfold X60.c0.eq_1, run_unfold X60.c1.eq_1, run_unfold X60.c2.eq_1, X60.k0]
    rw [appendV_push (nl := false) (nl' := false) rfl rfl (by simp only [List.length_map, List.length_take]; omega) rfl (by simp only [maxBytes]; omega)]
    simp (maxSteps := 2000000) only [go_sem, run_unfold X60.c0.eq_1, run_unfold X60.c1.eq_1, run_unfold X60.c2.eq_1, X60.k0, wrap_succ (show i < 9223372036854775807 by omega)]
    exact ⟨v_names_map (fun _ => sv_pure) _, ih'⟩
   ·have h6' : ¬ ((k3 % 2 : Nat) : Int) = 1 := by omega
    have hrow : mkRow (k0, k1, k2, k3) = [numV ((k0 % 3 : Nat) : Int), numV (((k1 % 7 : Nat) : Int) - 2), ⟨3, 0, strOf (k2 % 3)⟩, ⟨1, 0, ⟨#[]⟩⟩] := by simp [mkRow, h5, h6]
    rw [hrow] at hapx
    rw [← hapx] at ih'
    simp (maxSteps := 2000000) only [go_sem, h1, h2, hq, e0, e1, e2, e3, e4, c0, c1, c2, l3, hlt3, h5', h6', Nat.zero_add, Nat.mul_one, iaddrV_ref, run_unfold X60.c0.eq_1, run_unfold X60.c1.eq_1, run_unfold X60.c2.eq_1, X60.k0]
    rw [appendV_push (nl := false) (nl' := false) rfl rfl (by simp only [List.length_map, List.length_take]; omega) rfl (by simp only [maxBytes]; omega)]
    simp (maxSteps := 2000000) only [go_sem, run_unfold X60.c0.eq_1, run_unfold X60.c1.eq_1, run_unfold X60.c2.eq_1, X60.k0, wrap_succ (show i < 9223372036854775807 by omega)]
    exact ⟨v_names_map (fun _ => sv_pure) _, ih'⟩

theorem X60_spec {f : SlF} {l : List B4} (hl : l.length < 9223372036854775808) (hb : ∀ k ∈ l, B4Ok k) {lv : List Nat} {σ : Sto} {R : Post} : Cw T true i_X60 [l4A f l] lv σ R ↔ R (rowsA .lst (mkRows l)) σ := by
 refine cw_intro T_X60 (by simp only [go_sem]) (by simp) ?_; rw [run_unfold X60.main.eq_1]
 have := X60_loop (f := f) hl hb (min 16 l.length) 0 (by omega)
 simp (maxSteps := 2000000) only [go_sem]
 exact this
@[go_sem] theorem X60_call {f : SlF} {l : List B4} (hl : l.length < 9223372036854775808) (hb : ∀ k ∈ l, B4Ok k) {Q : Post3} {k : List Item} {os : List AOper} {d : Option Nat} {e : Env} {σ : Sto} : CallK T Q k os d e σ true i_X60 [l4A f l] ↔ Run T Q (.ops os :: k) (put e d (rowsA .lst (mkRows l))) σ := X60_spec hl hb

end Go.Abs
