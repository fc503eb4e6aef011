/- Parts of the proof: C40A, C40B, C40C, C40D, C40E, C40G, C40H, C40I, C40J, C40K, C40L. -/
import Derived.Test.YtjfiifcehdjhpaaC40F
import Derived.Test.YtjfiifcehdjhpaaAbsVal
import Derived.Test.YtjfiifcehdjhpaaJAbsLaw
import Derived.KernelRfl
import Derived.Laws.Strings
set_option linter.all false
/- Walks of chapter 40: values and how they are compared. -/
set_option linter.unusedSimpArgs false
set_option linter.unusedVariables false
namespace Go.Abs
open Go
attribute [local go_sem_proc] Nat.reduceLT Nat.reduceEqDiff Nat.reduceLeDiff Nat.reduceAdd Nat.reduceSub Nat.reduceMul Int.reduceLT Int.reduceLE Int.reduceEq Int.reduceNeg
attribute [local go_sem_proc ↓] reduceIte

attribute [go_sem] chunk List.headD_cons
abbrev int (n : Int) : AVal := .int .i64 n
abbrev ints (f : SlF) (c : List Int) : AVal := sv 1 f (c.map fun n => .int .i64 n)
abbrev Fits {α : Type} (l : List α) : Prop := l.length < 9223372036854775807

structure Val where
 k : Int
 i : Int
 s : ByteArray
 deriving DecidableEq
abbrev vA (v : Val) : AVal := .agg [.int .i64 v.k, .int .i64 v.i, .str v.s]
abbrev rowA (f : SlF) (r : List Val) : AVal := sv 3 f (r.map fun v => .agg [.int .i64 v.k, .int .i64 v.i, .str v.s])
abbrev rowsA (f : SlF) (l : List (SlF × List Val)) : AVal := sv 1 f (l.map fun p => sv 3 p.1 (p.2.map fun v => .agg [.int .i64 v.k, .int .i64 v.i, .str v.s]))

def sgn (a b : Int) : Int := if a < b then -1 else if b < a then 1 else 0
def cmpL : List UInt8 → List UInt8 → Int
 | [], [] => 0
 | [], _ :: _ => -1
 | _ :: _, [] => 1
 | a :: x, b :: y => if a = b then cmpL x y else if a < b then -1 else 1
def cmpS (x y : ByteArray) : Int := cmpL x.toList y.toList

theorem cmpL_less : ∀ (x y : List UInt8), Op.bytesLess x y = decide (cmpL x y < 0)
 | [], [] => by decide
 | [], b :: y => by simp [Op.bytesLess, cmpL]
 | a :: x, [] => by simp [Op.bytesLess, cmpL]
 | a :: x, b :: y => by
  simp only [Op.bytesLess, cmpL]
  by_cases h : a = b
  ·subst h
   simp [cmpL_less x y, UInt8.lt_irrefl]
  ·by_cases hl : a < b
   ·simp [h, hl]
   ·simp [h, hl]
theorem cmpL_eq : ∀ (x y : List UInt8), (x == y) = decide (cmpL x y = 0)
 | [], [] => by decide
 | [], b :: y => by simp [cmpL]
 | a :: x, [] => by simp [cmpL]
 | a :: x, b :: y => by
  simp only [cmpL]
  by_cases h : a = b
  ·subst h
   have := cmpL_eq x y
   simp only [List.cons_beq_cons, beq_self_eq_true, Bool.true_and, this, if_true]
  ·by_cases hl : a < b
   ·simp [h, hl]
   ·simp [h, hl]
theorem cmpL_val : ∀ (x y : List UInt8), cmpL x y = if cmpL x y < 0 then -1 else if cmpL x y = 0 then 0 else 1
 | [], [] => by decide
 | [], b :: y => by simp [cmpL]
 | a :: x, [] => by simp [cmpL]
 | a :: x, b :: y => by
  simp only [cmpL]
  by_cases h : a = b
  ·simp only [h, if_true]; exact cmpL_val x y
  ·by_cases hl : a < b
   ·simp [h, hl]
   ·simp [h, hl]

theorem Xq60_spec {a b : Int} {lv : List Nat} {σ : Sto} {R : Post} : Cw T true i_Xq60 [.int .i64 a, .int .i64 b] lv σ R ↔ R (.int .i64 (sgn a b)) σ := by
 refine cw_intro T_Xq60 (by simp only [go_sem]) (by simp) ?_; rw [run_unfold Xq60.main.eq_1]
 unfold sgn
 by_cases h : a < b
 ·simp (maxSteps := 2000000) only [go_sem, h]
 ·by_cases h1 : b < a
  ·simp (maxSteps := 2000000) only [go_sem, h, h1]
  ·simp (maxSteps := 2000000) only [go_sem, h, h1]
@[go_sem] theorem Xq60_call {a b : Int} {Q : Post3} {k : List Item} {os : List AOper} {d : Option Nat} {e : Env} {σ : Sto} : CallK T Q k os d e σ true i_Xq60 [.int .i64 a, .int .i64 b] ↔ Run T Q (.ops os :: k) (put e d (.int .i64 (sgn a b))) σ := Xq60_spec


theorem Xq26_spec {a : Int} {lv : List Nat} {σ : Sto} {R : Post} : Cw T true i_Xq26 [.int .i64 a] lv σ R ↔ R (.bool false) σ := by
 refine cw_intro T_Xq26 (by simp only [go_sem]) (by simp) ?_; rw [run_unfold Xq26.main.eq_1]
 simp (maxSteps := 2000000) only [go_sem]
@[go_sem] theorem Xq26_call {a : Int} {Q : Post3} {k : List Item} {os : List AOper} {d : Option Nat} {e : Env} {σ : Sto} : CallK T Q k os d e σ true i_Xq26 [.int .i64 a] ↔ Run T Q (.ops os :: k) (put e d (.bool false)) σ := Xq26_spec


theorem Xq19_spec {a b : Int} {lv : List Nat} {σ : Sto} {R : Post} : Cw T true i_Xq19 [.int .i64 a, .int .i64 b] lv σ R ↔ R (.int .i64 (sgn a b)) σ := by
 refine cw_intro T_Xq19 (by simp only [go_sem]) (by simp) ?_; rw [run_unfold Xq19.main.eq_1]
 unfold sgn
 by_cases h : a < b
 ·simp (maxSteps := 2000000) only [go_sem, h]
 ·by_cases h1 : b < a
  ·simp (maxSteps := 2000000) only [go_sem, h, h1]
  ·simp (maxSteps := 2000000) only [go_sem, h, h1]
@[go_sem] theorem Xq19_call {a b : Int} {Q : Post3} {k : List Item} {os : List AOper} {d : Option Nat} {e : Env} {σ : Sto} : CallK T Q k os d e σ true i_Xq19 [.int .i64 a, .int .i64 b] ↔ Run T Q (.ops os :: k) (put e d (.int .i64 (sgn a b))) σ := Xq19_spec


@[go_sem] theorem binV_sneq {a b : ByteArray} {σ : Sto} : binV .neq (.str a) (.str b) σ = some (.bool (!decide (cmpS a b = 0)), σ) := by
 simp only [binV, binA, binStr, cmpL_eq, cmpS]; rfl
@[go_sem] theorem binV_slss {a b : ByteArray} {σ : Sto} : binV .lss (.str a) (.str b) σ = some (.bool (decide (cmpS a b < 0)), σ) := by
 simp only [binV, binA, binStr, cmpL_less, cmpS]; rfl
@[go_sem] theorem binV_sgtr {a b : ByteArray} {σ : Sto} : binV .gtr (.str a) (.str b) σ = some (.bool (decide (0 < cmpS a b)), σ) := by
 have : decide (0 < cmpS a b) = !(decide (cmpL a.toList b.toList < 0) || decide (cmpL a.toList b.toList = 0)) := by
  unfold cmpS
  generalize cmpL a.toList b.toList = c
  by_cases h : c < 0
  ·simp [h]; omega
  ·by_cases h1 : c = 0
   ·simp [h1]
   ·simp [h, h1]; omega
 rw [this]
 simp only [binV, binA, binStr, cmpL_less, cmpL_eq]; rfl

theorem cmpS_self (a : ByteArray) : cmpS a a = 0 := by
 have := cmpL_eq a.toList a.toList
 unfold cmpS
 simpa using this

theorem Xq16_spec {a : ByteArray} {lv : List Nat} {σ : Sto} {R : Post} : Cw T true i_Xq16 [.str a] lv σ R ↔ R (.bool false) σ := by
 refine cw_intro T_Xq16 (by simp only [go_sem]) (by simp) ?_; rw [run_unfold Xq16.main.eq_1]
 simp (maxSteps := 2000000) only [go_sem, cmpS_self]
@[go_sem] theorem Xq16_call {a : ByteArray} {Q : Post3} {k : List Item} {os : List AOper} {d : Option Nat} {e : Env} {σ : Sto} : CallK T Q k os d e σ true i_Xq16 [.str a] ↔ Run T Q (.ops os :: k) (put e d (.bool false)) σ := Xq16_spec


theorem Xq14_spec {a b : ByteArray} {lv : List Nat} {σ : Sto} {R : Post} : Cw T true i_Xq14 [.str a, .str b] lv σ R ↔ R (.int .i64 (cmpS a b)) σ := by
 refine cw_intro T_Xq14 (by simp only [go_sem]) (by simp) ?_; rw [run_unfold Xq14.main.eq_1]
 have hv := cmpL_val a.toList b.toList
 change cmpS a b = if cmpS a b < 0 then -1 else if cmpS a b = 0 then 0 else 1 at hv
 by_cases h : cmpS a b < 0
 ·rw [if_pos h] at hv
  simp (maxSteps := 2000000) only [go_sem, h]
  simp (maxSteps := 2000000) only [go_sem, hv]
 ·by_cases h1 : cmpS a b = 0
  ·simp (maxSteps := 2000000) only [go_sem, h1, Int.lt_irrefl]
  ·have h2 : 0 < cmpS a b := by omega
   rw [if_neg h, if_neg h1] at hv
   simp (maxSteps := 2000000) only [go_sem, h, h2]
   simp (maxSteps := 2000000) only [go_sem, hv]
@[go_sem] theorem Xq14_call {a b : ByteArray} {Q : Post3} {k : List Item} {os : List AOper} {d : Option Nat} {e : Env} {σ : Sto} : CallK T Q k os d e σ true i_Xq14 [.str a, .str b] ↔ Run T Q (.ops os :: k) (put e d (.int .i64 (cmpS a b))) σ := Xq14_spec


theorem toList_get {a : ByteArray} {i : Nat} (h : i < a.size) : a.toList[i]'(by rw [ByteArray.toList_eq]; simpa using h) = a[i] := by
 simp only [ByteArray.toList_eq]; rfl
theorem toList_len {a : ByteArray} : a.toList.length = a.size := by rw [ByteArray.toList_eq]; simp
theorem idxSV_nat {a : ByteArray} {i : Nat} {kd : IntKind} {σ : Sto} (h : i < a.size) : idxSV (.str a) (.int kd (i : Int)) σ = some (.int .u8 (a[i].toNat : Int), σ) := by
 simp only [idxSV, natOf_nat]
 rw [getElem?_pos a i h]
 rfl

theorem u8_lt {a b : UInt8} : ((a.toNat : Int) < (b.toNat : Int)) ↔ a < b := by rw [UInt8.lt_iff_toNat_lt]; omega
theorem u8_eq {a b : UInt8} : ((a.toNat : Int) = (b.toNat : Int)) ↔ a = b := by rw [← UInt8.toNat_inj]; omega
theorem u8_i64 (a : UInt8) : IntKind.i64.wrap (a.toNat : Int) = (a.toNat : Int) := by
 have := a.toNat_lt
 exact wrap_i64 (by omega) (by omega)

theorem Xq34_loop {a b : ByteArray} (ha : a.size < 9223372036854775807) (hb : b.size < 9223372036854775807) : ∀ (n i : Nat), a.size = i + n → i ≤ b.size →
  Run T (Res [.tmp 4] (.int .i64 (cmpL (a.toList.drop i) (b.toList.drop i)))) (.inLoop Xq34.b0 :: Xq34.k0) (mkE 39 [(0, .str a), (1, .str b), (5, .int .i64 i)]) [] := by
 intro n
 induction n with
 | zero =>
  intro i hn hi
  rw [run_round, run_unfold Xq34.b0.eq_1]
  have e1 : a.toList.drop i = [] := List.drop_eq_nil_of_le (by rw [toList_len]; omega)
  have hlt : ¬ i < a.size := by omega
  rw [e1]
  by_cases h : i < b.size
  ·have e2 : b.toList.drop i ≠ [] := by
    intro h0
    have := congrArg List.length h0
    rw [List.length_drop, toList_len] at this
    simp at this; omega
   have h3 : (a.size : Int) < b.size := by omega
   cases hd : b.toList.drop i with
   | nil => exact absurd hd e2
   | cons x y => simp (maxSteps := 2000000) only [go_sem, hlt, run_unfold Xq34.c0.eq_1, Xq34.k0, sgn, h3, cmpL, Int.ofNat_lt, show a.size < b.size by omega]
  ·have e2 : b.toList.drop i = [] := List.drop_eq_nil_of_le (by rw [toList_len]; omega)
   have h3 : a.size = b.size := by omega
   rw [e2]
   simp (maxSteps := 2000000) only [go_sem, hlt, h, run_unfold Xq34.c0.eq_1, Xq34.k0, sgn, h3, cmpL, Nat.lt_irrefl]
 | succ n ih =>
  intro i hn hi
  rw [run_round, run_unfold Xq34.b0.eq_1]
  have hlt : i < a.size := by omega
  have ha' : i < a.toList.length := by rw [toList_len]; omega
  rw [List.drop_eq_getElem_cons ha', toList_get hlt]
  by_cases h : i < b.size
  ·have hb' : i < b.toList.length := by rw [toList_len]; omega
   rw [List.drop_eq_getElem_cons hb', toList_get h]
   by_cases he : a[i] = b[i]
   ·simp (maxSteps := 2000000) only [go_sem, hlt, h, idxSV_nat hlt, idxSV_nat h, u8_eq, he, cmpL, wrap_succ (show i < 9223372036854775807 by omega)]
    exact ih (i + 1) (by omega) (by omega)
   ·by_cases hl : a[i] < b[i]
    ·simp (maxSteps := 2000000) only [go_sem, hlt, h, idxSV_nat hlt, idxSV_nat h, u8_eq, he, cmpL, sgn, u8_i64, u8_lt, hl]
    ·have hg : b[i] < a[i] := by
      rcases UInt8.lt_or_lt_of_ne he with h | h
      ·exact absurd h hl
      ·exact h
     simp (maxSteps := 2000000) only [go_sem, hlt, h, idxSV_nat hlt, idxSV_nat h, u8_eq, he, cmpL, sgn, u8_i64, u8_lt, hl, hg]
  ·have e2 : b.toList.drop i = [] := List.drop_eq_nil_of_le (by rw [toList_len]; omega)
   have h3 : b.size < a.size := by omega
   rw [e2]
   simp (maxSteps := 2000000) only [go_sem, hlt, h, run_unfold Xq34.c0.eq_1, Xq34.k0, sgn, h3, show ¬ a.size < b.size by omega, cmpL]

theorem Xq34_spec {a b : ByteArray} (ha : a.size < 9223372036854775807) (hb : b.size < 9223372036854775807) {lv : List Nat} {σ : Sto} {R : Post} : Cw T true i_Xq34 [.str a, .str b] lv σ R ↔ R (.int .i64 (cmpS a b)) σ := by
 refine cw_intro T_Xq34 (by simp only [go_sem]) (by simp) ?_; rw [run_unfold Xq34.main.eq_1]
 simp (maxSteps := 2000000) only [go_sem]
 have := Xq34_loop ha hb a.size 0 (by omega) (by omega)
 simp only [List.drop_zero] at this
 exact this
@[go_sem] theorem Xq34_call {a b : ByteArray} (ha : a.size < 9223372036854775807) (hb : b.size < 9223372036854775807) {Q : Post3} {k : List Item} {os : List AOper} {d : Option Nat} {e : Env} {σ : Sto} : CallK T Q k os d e σ true i_Xq34 [.str a, .str b] ↔ Run T Q (.ops os :: k) (put e d (.int .i64 (cmpS a b))) σ := Xq34_spec ha hb

end Go.Abs
/- Walks of chapter 40: values and rows are compared. -/
set_option linter.unusedSimpArgs false
set_option linter.unusedVariables false
namespace Go.Abs
open Go
attribute [local go_sem_proc] Nat.reduceLT Nat.reduceEqDiff Nat.reduceLeDiff Nat.reduceAdd Nat.reduceSub Nat.reduceMul Int.reduceLT Int.reduceLE Int.reduceEq Int.reduceNeg
attribute [local go_sem_proc ↓] reduceIte

def Short (v : Val) : Prop := v.s.size < 9223372036854775807
def cmpV (a b : Val) : Int := if a.k = b.k then (if a.i = b.i then cmpS a.s b.s else sgn a.i b.i) else sgn a.k b.k
theorem sgn_zero {a b : Int} : sgn a b = 0 ↔ a = b := by unfold sgn; repeat' split
                                                         all_goals omega

theorem Xq70_spec {a b : Val} (ha : Short a) (hb : Short b) {lv : List Nat} {σ : Sto} {R : Post} : Cw T true i_Xq70 [vA a, vA b] lv σ R ↔ R (.int .i64 (cmpV a b)) σ := by
  refine cw_intro T_Xq70 (by simp only [go_sem]) (by simp) ?_; rw [run_unfold Xq70.main.eq_1]
  unfold cmpV
  by_cases h1 : a.k = b.k
  · by_cases h2 : a.i = b.i
    · simp (maxSteps := 2000000) only [go_sem, h1, h2, Xq34_call ha hb]
    · simp (maxSteps := 2000000) only [go_sem, h1, h2]
  · simp (maxSteps := 2000000) only [go_sem, h1]
@[go_sem] theorem Xq70_call {a b : Val} (ha : Short a) (hb : Short b) {Q : Post3} {k : List Item} {os : List AOper} {d : Option Nat} {e : Env} {σ : Sto} : CallK T Q k os d e σ true i_Xq70 [vA a, vA b] ↔ Run T Q (.ops os :: k) (put e d (.int .i64 (cmpV a b))) σ := Xq70_spec ha hb


theorem Xq20_loop {f : SlF} {c : List Int} (hc : Fits c) : ∀ i, i ≤ c.length →
    Run T (Res [.tmp 2] (.int .i64 (((c.drop i).find? (fun x => !decide (x = 0))).getD 0))) (.inLoop Xq20.b0 :: Xq20.k0) (mkE 18 [(3, .int .i64 0), (6, ints f c), (7, .int .i64 c.length), (8, .int .i64 i)]) [] := by
  refine up_ind ?_ fun i hi ih => ?_
  · rw [run_round, run_unfold Xq20.b0.eq_1]
    simp (maxSteps := 2000000) only [go_sem, run_unfold Xq20.c0.eq_1, Xq20.k0, List.drop_length, List.find?_nil, Option.getD_none]
  · rw [run_round, run_unfold Xq20.b0.eq_1]
    rw [List.drop_eq_getElem_cons hi]
    by_cases h : c[i] = 0
    · simp (maxSteps := 2000000) only [go_sem, hi, h, List.find?_cons, wrap_succ (show i < 9223372036854775807 by omega)]
      exact ih
    · simp (maxSteps := 2000000) only [go_sem, hi, h, List.find?_cons, Option.getD_some]
def firstN (c : List Int) : Int := (c.find? (fun x => !decide (x = 0))).getD 0
theorem Xq20_spec {f : SlF} {c : List Int} (hc : Fits c) {lv : List Nat} {σ : Sto} {R : Post} : Cw T true i_Xq20 [ints f c] lv σ R ↔ R (.int .i64 (firstN c)) σ := by
  refine cw_intro T_Xq20 (by simp only [go_sem]) (by simp) ?_; rw [run_unfold Xq20.main.eq_1]
  simp (maxSteps := 2000000) only [go_sem]
  exact Xq20_loop hc 0 (by omega)
@[go_sem] theorem Xq20_call {f : SlF} {c : List Int} (hc : Fits c) {Q : Post3} {k : List Item} {os : List AOper} {d : Option Nat} {e : Env} {σ : Sto} : CallK T Q k os d e σ true i_Xq20 [ints f c] ↔ Run T Q (.ops os :: k) (put e d (.int .i64 (firstN c))) σ := Xq20_spec hc

theorem firstN3 {a b c : Int} : firstN [a, b, c] = if a = 0 then (if b = 0 then c else b) else a := by
  unfold firstN
  by_cases h1 : a = 0
  · by_cases h2 : b = 0
    · by_cases h3 : c = 0
      · simp [h1, h2, h3]
      · simp [h1, h2, h3]
    · simp [h1, h2]
  · simp [h1]
theorem list3 {a b c : Int} : (AVal.list 1 [.int .i64 a, .int .i64 b, .int .i64 c]) = ints .lst [a, b, c] := (sv_lst ..).symm

theorem Xq51_spec {a b : Val} {lv : List Nat} {σ : Sto} {R : Post} : Cw T true i_Xq51 [vA a, vA b] lv σ R ↔ R (.int .i64 (cmpV a b)) σ := by
  refine cw_intro T_Xq51 (by simp only [go_sem]) (by simp) ?_; rw [run_unfold Xq51.main.eq_1]
  simp (maxSteps := 2000000) only [go_sem, list3]
  rw [Xq20_call (by simp)]
  have : firstN [sgn a.k b.k, sgn a.i b.i, cmpS a.s b.s] = cmpV a b := by
    rw [firstN3]
    unfold cmpV
    simp only [sgn_zero]
  simp (maxSteps := 2000000) only [go_sem, this]
@[go_sem] theorem Xq51_call {a b : Val} {Q : Post3} {k : List Item} {os : List AOper} {d : Option Nat} {e : Env} {σ : Sto} : CallK T Q k os d e σ true i_Xq51 [vA a, vA b] ↔ Run T Q (.ops os :: k) (put e d (.int .i64 (cmpV a b))) σ := Xq51_spec


def cmpR : List Val → List Val → Int
  | [], [] => 0
  | [], _ :: _ => -1
  | _ :: _, [] => 1
  | a :: x, b :: y => if cmpV a b = 0 then cmpR x y else cmpV a b

theorem Xq36_loop {f g : SlF} {a b : List Val} (ha : Fits a) (hb : Fits b) (hsa : ∀ v ∈ a, Short v) (hsb : ∀ v ∈ b, Short v) : ∀ (n i : Nat), a.length = i + n → i ≤ b.length →
    Run T (Res [.tmp 4] (.int .i64 (cmpR (a.drop i) (b.drop i)))) (.inLoop Xq36.b0 :: Xq36.k0) (mkE 36 [(0, rowA f a), (1, rowA g b), (5, .int .i64 i)]) [] := by
  intro n
  induction n with
  | zero =>
    intro i hn hi
    rw [run_round, run_unfold Xq36.b0.eq_1]
    have e1 : a.drop i = [] := List.drop_eq_nil_of_le (by omega)
    have hlt : ¬ i < a.length := by omega
    rw [e1]
    by_cases h : i < b.length
    · have h3 : (a.length : Int) < b.length := by omega
      rw [List.drop_eq_getElem_cons h]
      simp (maxSteps := 2000000) only [go_sem, hlt, h, run_unfold Xq36.c0.eq_1, Xq36.k0, sgn, h3, cmpR, show a.length < b.length by omega]
    · have h3 : a.length = b.length := by omega
      rw [List.drop_eq_nil_of_le (show b.length ≤ i by omega)]
      simp (maxSteps := 2000000) only [go_sem, hlt, h, run_unfold Xq36.c0.eq_1, Xq36.k0, sgn, h3, cmpR, Nat.lt_irrefl]
  | succ n ih =>
    intro i hn hi
    rw [run_round, run_unfold Xq36.b0.eq_1]
    have hlt : i < a.length := by omega
    rw [List.drop_eq_getElem_cons hlt]
    by_cases h : i < b.length
    · rw [List.drop_eq_getElem_cons h]
      have hc := @Xq70_call a[i] b[i] (hsa _ (List.getElem_mem hlt)) (hsb _ (List.getElem_mem h))
      by_cases he : cmpV a[i] b[i] = 0
      · simp (maxSteps := 2000000) only [go_sem, hlt, h, hc, he, cmpR, wrap_succ (show i < 9223372036854775807 by omega)]
        exact ih (i + 1) (by omega) (by omega)
      · simp (maxSteps := 2000000) only [go_sem, hlt, h, hc, he, cmpR]
    · rw [List.drop_eq_nil_of_le (show b.length ≤ i by omega)]
      have h3 : b.length < a.length := by omega
      simp (maxSteps := 2000000) only [go_sem, hlt, h, run_unfold Xq36.c0.eq_1, Xq36.k0, sgn, h3, show ¬ a.length < b.length by omega, cmpR]

theorem Xq36_spec {f g : SlF} {a b : List Val} (ha : Fits a) (hb : Fits b) (hsa : ∀ v ∈ a, Short v) (hsb : ∀ v ∈ b, Short v) {lv : List Nat} {σ : Sto} {R : Post} : Cw T true i_Xq36 [rowA f a, rowA g b] lv σ R ↔ R (.int .i64 (cmpR a b)) σ := by
  refine cw_intro T_Xq36 (by simp only [go_sem]) (by simp) ?_; rw [run_unfold Xq36.main.eq_1]
  simp (maxSteps := 2000000) only [go_sem]
  have := Xq36_loop (f := f) (g := g) ha hb hsa hsb a.length 0 (by omega) (by omega)
  simp only [List.drop_zero] at this
  exact this
@[go_sem] theorem Xq36_call {f g : SlF} {a b : List Val} (ha : Fits a) (hb : Fits b) (hsa : ∀ v ∈ a, Short v) (hsb : ∀ v ∈ b, Short v) {Q : Post3} {k : List Item} {os : List AOper} {d : Option Nat} {e : Env} {σ : Sto} : CallK T Q k os d e σ true i_Xq36 [rowA f a, rowA g b] ↔ Run T Q (.ops os :: k) (put e d (.int .i64 (cmpR a b))) σ := Xq36_spec ha hb hsa hsb


theorem cmpL_zero : ∀ {x y : List UInt8}, cmpL x y = 0 ↔ x = y := by
  intro x y
  have := cmpL_eq x y
  rw [← decide_eq_true_iff (p := cmpL x y = 0), ← this]
  exact beq_iff_eq
theorem cmpS_zero {x y : ByteArray} : cmpS x y = 0 ↔ x = y := by
  unfold cmpS
  rw [cmpL_zero, ByteArray.toList_eq, ByteArray.toList_eq]
  constructor
  · intro h
    have := Array.ext' h
    exact ByteArray.ext this
  · intro h; rw [h]
theorem cmpV_zero {a b : Val} : cmpV a b = 0 ↔ a = b := by
  obtain ⟨k, i, s⟩ := a
  obtain ⟨k', i', s'⟩ := b
  unfold cmpV
  simp only [Val.mk.injEq]
  split
  · rename_i h1
    split
    · rename_i h2; rw [cmpS_zero]; simp [h1, h2]
    · rename_i h2; rw [sgn_zero]; simp [h1, h2]
  · rename_i h1; rw [sgn_zero]; simp [h1]
theorem cmpR_zero : ∀ {a b : List Val}, cmpR a b = 0 ↔ a = b
  | [], [] => by simp [cmpR]
  | [], _ :: _ => by simp [cmpR]
  | _ :: _, [] => by simp [cmpR]
  | a :: x, b :: y => by
    simp only [cmpR, List.cons.injEq]
    split
    · rename_i h; rw [cmpR_zero, cmpV_zero.1 h]; simp
    · rename_i h
      constructor
      · intro h'; exact absurd h' h
      · intro h'; exact absurd (cmpV_zero.2 h'.1) h

theorem Xq63_spec {f g : SlF} {a b : List Val} (ha : Fits a) (hb : Fits b) (hsa : ∀ v ∈ a, Short v) (hsb : ∀ v ∈ b, Short v) {lv : List Nat} {σ : Sto} {R : Post} : Cw T true i_Xq63 [rowA f a, rowA g b] lv σ R ↔ R (.bool (decide (a = b))) σ := by
  refine cw_intro T_Xq63 (by simp only [go_sem]) (by simp) ?_; rw [run_unfold Xq63.main.eq_1]
  simp (maxSteps := 2000000) only [go_sem, Xq36_call ha hb hsa hsb, cmpR_zero]
@[go_sem] theorem Xq63_call {f g : SlF} {a b : List Val} (ha : Fits a) (hb : Fits b) (hsa : ∀ v ∈ a, Short v) (hsb : ∀ v ∈ b, Short v) {Q : Post3} {k : List Item} {os : List AOper} {d : Option Nat} {e : Env} {σ : Sto} : CallK T Q k os d e σ true i_Xq63 [rowA f a, rowA g b] ↔ Run T Q (.ops os :: k) (put e d (.bool (decide (a = b)))) σ := Xq63_spec ha hb hsa hsb

end Go.Abs
/- Walks of chapter 40: the reference's values and rows. -/
set_option linter.unusedSimpArgs false
set_option linter.unusedVariables false
set_option maxRecDepth 100000
set_option maxHeartbeats 4000000
namespace Go.Abs
open Go
attribute [local go_sem_proc] Nat.reduceLT Nat.reduceEqDiff Nat.reduceLeDiff Nat.reduceAdd Nat.reduceSub Nat.reduceMul Int.reduceLT Int.reduceLE Int.reduceEq Int.reduceNeg
attribute [local go_sem_proc ↓] reduceIte

abbrev Rows := List (SlF × List Val)
def RowsFit (l : Rows) : Prop := l.length ≤ 1000000 ∧ ∀ p ∈ l, Fits p.2 ∧ ∀ v ∈ p.2, Short v
def numV (n : Int) : Val := ⟨2, IntKind.i64.wrap (n * 1000000), ⟨#[]⟩⟩
def zV : Val := ⟨0, 0, ⟨#[]⟩⟩
abbrev cellsV (r : List Val) : List AVal := r.flatMap fun v => [.int .i64 v.k, .int .i64 v.i, .str v.s]
theorem cellsV_len (r : List Val) : (cellsV r).length = r.length * 3 := flatMap_len (k := 3) (fun _ => rfl) r

theorem Xq69_spec {n : Int} {lv : List Nat} {σ : Sto} {R : Post} : Cw T true i_Xq69 [.int .i64 n] lv σ R ↔ R (vA ⟨2, n, ⟨#[]⟩⟩) σ := by
 refine cw_intro T_Xq69 (by simp only [go_sem]) (by simp) ?_; rw [run_unfold Xq69.main.eq_1]
 simp (maxSteps := 2000000) only [go_sem]
@[go_sem] theorem Xq69_call {n : Int} {Q : Post3} {k : List Item} {os : List AOper} {d : Option Nat} {e : Env} {σ : Sto} : CallK T Q k os d e σ true i_Xq69 [.int .i64 n] ↔ Run T Q (.ops os :: k) (put e d (vA ⟨2, n, ⟨#[]⟩⟩)) σ := Xq69_spec

theorem Xq56_spec {n : Int} {lv : List Nat} {σ : Sto} {R : Post} : Cw T true i_Xq56 [.int .i64 n] lv σ R ↔ R (vA (numV n)) σ := by
 refine cw_intro T_Xq56 (by simp only [go_sem]) (by simp) ?_; rw [run_unfold Xq56.main.eq_1]
 simp (maxSteps := 2000000) only [go_sem, numV]
@[go_sem] theorem Xq56_call {n : Int} {Q : Post3} {k : List Item} {os : List AOper} {d : Option Nat} {e : Env} {σ : Sto} : CallK T Q k os d e σ true i_Xq56 [.int .i64 n] ↔ Run T Q (.ops os :: k) (put e d (vA (numV n))) σ := Xq56_spec

theorem Xq68_spec {s : ByteArray} {lv : List Nat} {σ : Sto} {R : Post} : Cw T true i_Xq68 [.str s] lv σ R ↔ R (vA ⟨3, 0, s⟩) σ := by
 refine cw_intro T_Xq68 (by simp only [go_sem]) (by simp) ?_; rw [run_unfold Xq68.main.eq_1]
 simp (maxSteps := 2000000) only [go_sem]
@[go_sem] theorem Xq68_call {s : ByteArray} {Q : Post3} {k : List Item} {os : List AOper} {d : Option Nat} {e : Env} {σ : Sto} : CallK T Q k os d e σ true i_Xq68 [.str s] ↔ Run T Q (.ops os :: k) (put e d (vA ⟨3, 0, s⟩)) σ := Xq68_spec

theorem Xq64_spec {b : Bool} {lv : List Nat} {σ : Sto} {R : Post} : Cw T true i_Xq64 [.bool b] lv σ R ↔ R (vA ⟨1, if b = true then 1 else 0, ⟨#[]⟩⟩) σ := by
 refine cw_intro T_Xq64 (by simp only [go_sem]) (by simp) ?_; rw [run_unfold Xq64.main.eq_1]
 cases b
 ·simp (maxSteps := 2000000) only [go_sem]
 ·simp (maxSteps := 2000000) only [go_sem]
@[go_sem] theorem Xq64_call {b : Bool} {Q : Post3} {k : List Item} {os : List AOper} {d : Option Nat} {e : Env} {σ : Sto} : CallK T Q k os d e σ true i_Xq64 [.bool b] ↔ Run T Q (.ops os :: k) (put e d (vA ⟨1, if b = true then 1 else 0, ⟨#[]⟩⟩)) σ := Xq64_spec


theorem Xq32_loop {f g : SlF} {a b : Rows} (ha : RowsFit a) (hb : RowsFit b) (hl : a.length = b.length) : ∀ i, i ≤ a.length →
  Run T (Res [.tmp 4] (.bool (decide ((a.drop i).map Prod.snd = (b.drop i).map Prod.snd)))) (.inLoop Xq32.b0 :: Xq32.k0) (mkE 27 [(0, rowsA f a), (1, rowsA g b), (5, .int .i64 i)]) [] := by
 have ha3 := ha.1
 refine up_ind ?_ fun i hi ih => ?_
 ·rw [run_round, run_unfold Xq32.b0.eq_1]
  simp (maxSteps := 2000000) only [go_sem, run_unfold Xq32.c0.eq_1, run_unfold Xq32.c1.eq_1, Xq32.k0, List.drop_length, show List.drop a.length b = [] by rw [hl]; exact List.drop_length]
 ·rw [run_round, run_unfold Xq32.b0.eq_1]
  have hbi : i < b.length := by omega
  rw [List.drop_eq_getElem_cons hi, List.drop_eq_getElem_cons hbi]
  simp only [List.map_cons, List.cons.injEq]
  obtain ⟨h1, h2⟩ := ha.2 _ (List.getElem_mem hi)
  obtain ⟨h3, h4⟩ := hb.2 _ (List.getElem_mem hbi)
  have hc := @Xq63_call a[i].1 b[i].1 a[i].2 b[i].2 h1 h3 h2 h4
  by_cases h : a[i].2 = b[i].2
  ·have hd : decide (a[i].2 = b[i].2) = true := by simp [h]
   simp (maxSteps := 2000000) only [go_sem, hi, hbi, hc, hd, eq_true h, true_and, wrap_succ (show i < 9223372036854775807 by omega)]
   exact ih
  ·have hd : decide (a[i].2 = b[i].2) = false := by simp [h]
   simp (maxSteps := 2000000) only [go_sem, hi, hbi, hc, hd, eq_false h, false_and]
theorem Xq32_spec {f g : SlF} {a b : Rows} (ha : RowsFit a) (hb : RowsFit b) {lv : List Nat} {σ : Sto} {R : Post} : Cw T true i_Xq32 [rowsA f a, rowsA g b] lv σ R ↔ R (.bool (decide (a.map Prod.snd = b.map Prod.snd))) σ := by
 refine cw_intro T_Xq32 (by simp only [go_sem]) (by simp) ?_; rw [run_unfold Xq32.main.eq_1]
 by_cases hl : a.length = b.length
 ·simp (maxSteps := 2000000) only [go_sem, hl]
  have := Xq32_loop (f := f) (g := g) ha hb hl 0 (by omega)
  simp only [List.drop_zero] at this
  exact this
 ·have h1 : ¬ (a.length : Int) = b.length := by omega
  have h2 : ¬ a.map Prod.snd = b.map Prod.snd := fun e => hl (by have := congrArg List.length e; simpa using this)
  simp (maxSteps := 2000000) only [go_sem, h1, h2]
@[go_sem] theorem Xq32_call {f g : SlF} {a b : Rows} (ha : RowsFit a) (hb : RowsFit b) {Q : Post3} {k : List Item} {os : List AOper} {d : Option Nat} {e : Env} {σ : Sto} : CallK T Q k os d e σ true i_Xq32 [rowsA f a, rowsA g b] ↔ Run T Q (.ops os :: k) (put e d (.bool (decide (a.map Prod.snd = b.map Prod.snd)))) σ := Xq32_spec ha hb


def tab : Nat → Val
 | 0 => zV
 | 1 => numV 0
 | 2 => numV 1
 | 3 => ⟨3, 0, ⟨#[97]⟩⟩
 | 4 => numV 2
 | 5 => ⟨1, 1, ⟨#[]⟩⟩
 | _ => ⟨3, 0, ⟨#[]⟩⟩
def rowAt (b : List Nat) (at' w : Nat) : List Val := (List.range w).map fun q => tab (b.getD (at' + q) 0 % 7)
def mkRows (b : List Nat) (w : Nat) : List (List Val) := (List.range (min 20 (b.length / w))).map fun i => rowAt b (i * w) w
abbrev bytesA (f : SlF) (b : List Nat) : AVal := sv 1 f (b.map fun n : Nat => AVal.int .u8 (n : Int))
theorem rowAt_succ {b : List Nat} {a q : Nat} : rowAt b a (q + 1) = rowAt b a q ++ [tab (b.getD (a + q) 0 % 7)] := by
 simp only [rowAt, List.range_succ, List.map_append, List.map_cons, List.map_nil]
theorem rowAt_len {b : List Nat} {a q : Nat} : (rowAt b a q).length = q := by simp [rowAt]
theorem cellsV_snoc {r : List Val} {v : Val} : cellsV (r ++ [v]) = cellsV r ++ [.int .i64 v.k, .int .i64 v.i, .str v.s] := by simp [cellsV]
theorem cellsV_one {r : List Val} : (cellsV r).all AVal.one = true := by
 rw [List.all_eq_true]
 intro x hx
 simp only [cellsV, List.mem_flatMap] at hx
 obtain ⟨v, _, hx⟩ := hx
 simp at hx
 rcases hx with rfl | rfl | rfl <;> rfl
theorem cellsV_pure {p : Nat → Bool} {r : List Val} : AVal.namesL p (cellsV r) = true := by
 induction r with
 | nil => rfl
 | cons v r ih => simp only [cellsV, List.flatMap_cons, List.cons_append, List.nil_append, AVal.namesL, AVal.names, Bool.true_and]; exact ih
abbrev tabC : List AVal := [.int .i64 0, .int .i64 0, .str ⟨#[]⟩, .int .i64 (numV 0).k, .int .i64 (numV 0).i, .str (numV 0).s, .int .i64 (numV 1).k, .int .i64 (numV 1).i, .str (numV 1).s, .int .i64 3, .int .i64 0, .str ⟨#[97]⟩, .int .i64 (numV 2).k, .int .i64 (numV 2).i, .str (numV 2).s, .int .i64 1, .int .i64 1, .str ⟨#[]⟩, .int .i64 3, .int .i64 0, .str ⟨#[]⟩]
theorem tab_len {j : Nat} (h : j < 7) : (3 ≤ (List.drop (j * 3) tabC).length) = True := by
 rcases (by omega : j = 0 ∨ j = 1 ∨ j = 2 ∨ j = 3 ∨ j = 4 ∨ j = 5 ∨ j = 6) with rfl | rfl | rfl | rfl | rfl | rfl | rfl <;> simp
theorem tab_take {j : Nat} (h : j < 7) : List.take 3 (List.drop (j * 3) tabC) = [.int .i64 (tab j).k, .int .i64 (tab j).i, .str (tab j).s] := by
 rcases (by omega : j = 0 ∨ j = 1 ∨ j = 2 ∨ j = 3 ∨ j = 4 ∨ j = 5 ∨ j = 6) with rfl | rfl | rfl | rfl | rfl | rfl | rfl <;> rfl

theorem freeze_row {σ : Sto} {o : Nat} {r : List Val} {w : Nat} (hw : r.length = w) (hσ : σ[o]? = some (.cells false (cellsV r))) : freezeV (.ref o (w * 3) 0 w 3) σ = some (rowA .lst r, σ.set o .dead) := by
 subst hw
 have hl := cellsV_len r
 have hp := cellsV_pure (p := fun _ => false) (r := r)
 have hc : AVal.list 3 (chunk 3 r.length (cellsV r)) = rowA .lst r := by rw [chunk_flatMap (k := 3) (by decide) (fun _ => rfl), rowA, sv_lst]
 simp only [freezeV, hσ, hl, hp, Nat.zero_add, Nat.le_refl, true_and, and_self, Bool.false_and, List.drop_zero, Bool.false_eq_true, if_false]
 rw [List.take_of_length_le (by omega), hc]
 rfl

abbrev rowsSt (X : List (List Val)) : AObj := .cells false (X.map fun r => rowA .lst r)
theorem Xq65_inner {f : SlF} {b : List Nat} {w a i : Nat} {X : List (List Val)} {Q : Post3} (hb : b.length < 9223372036854775808) (hby : ∀ x ∈ b, x < 256) (ha : a + w ≤ b.length) (hw : w ≤ 3)
  (last : Run T Q (.inLoop Xq65.b1 :: Xq65.k1 1) (mkE 59 [(0, bytesA f b), (1, .int .i64 w), (5, .ref 0 i 0 i 1), (6, .int .i64 a), (7, .ref 1 (w * 3) 0 w 3), (8, .int .i64 w)]) [rowsSt X, .cells false (cellsV (rowAt b a w))]) :
  ∀ q, q ≤ w → Run T Q (.inLoop Xq65.b1 :: Xq65.k1 1) (mkE 59 [(0, bytesA f b), (1, .int .i64 w), (5, .ref 0 i 0 i 1), (6, .int .i64 a), (7, .ref 1 (q * 3) 0 q 3), (8, .int .i64 q)]) [rowsSt X, .cells false (cellsV (rowAt b a q))] := by
 refine up_ind last fun q hq ih => ?_
 rw [run_round, run_unfold Xq65.b1.eq_1]
 have h1 : (q : Int) < w := by omega
 have h2 : IntKind.i64.wrap ((a : Int) + q) = ((a + q : Nat) : Int) := by rw [wrap_i64 (by omega) (by omega)]; omega
 have h3 : a + q < b.length := by omega
 have hk := hby _ (List.getElem_mem h3)
 have h4 : Int.tmod (b[a + q] : Int) 7 = ((b[a + q] % 7 : Nat) : Int) := rfl
 have h5 : b[a + q] % 7 < 7 := Nat.mod_lt _ (by decide)
 have hl := tab_len h5
 have ht := tab_take h5
 simp (maxSteps := 2000000) only [go_sem, h1, h2, h3, h4, h5, iaddrV_ref, Nat.zero_add, hl, ht]
 rw [appendV_grow (m := 1) (nl := false) (cs := cellsV (rowAt b a q)) (new := [.int .i64 (tab (b[a + q] % 7)).k, .int .i64 (tab (b[a + q] % 7)).i, .str (tab (b[a + q] % 7)).s]) rfl (by simp [rowOf]) (by rw [cellsV_len, rowAt_len]) rfl rfl (by decide) rfl (by simp only [maxBytes]; omega)]
 have hg : b.getD (a + q) 0 = b[a + q] := by simp [List.getD_eq_getElem?_getD, h3]
 rw [rowAt_succ, hg, cellsV_snoc] at ih
 simp (maxSteps := 2000000) only [go_sem, wrap_succ (show q < 9223372036854775807 by omega), show q * 3 + 3 = (q + 1) * 3 by omega, cellsV_pure]
 exact ⟨v_names_map (fun _ => sv_pure) _, ih⟩

theorem rowA_chunk {r : List Val} : AVal.list 3 (chunk 3 r.length (cellsV r)) = rowA .lst r := by
 rw [chunk_flatMap (k := 3) (by decide) (fun _ => rfl), rowA, sv_lst]
theorem snap_rows {n o : Nat} {σ : Sto} {X : List (List Val)} (hσ : σ[o]? = some (rowsSt X)) : snapA σ (n + 2) (.ref o X.length 0 X.length 1) = some (rowsA .lst (X.map fun r => (.lst, r))) := by
 rw [snapA_refN hσ (by simp) (by simp) (by decide) (v_names_map (fun _ => sv_pure) X)]
 have := chunk_one (X.map fun r => rowA .lst r)
 rw [List.length_map] at this
 rw [this, rowsA, sv_lst, List.map_map]
 rfl
abbrev lstR (X : List (List Val)) : Rows := X.map fun r => (.lst, r)

theorem Xq65_loop {f : SlF} {b : List Nat} {w : Nat} (hb : b.length < 9223372036854775808) (hby : ∀ x ∈ b, x < 256) (hw0 : 0 < w) (hw : w ≤ 3) : ∀ (r i : Nat), min 20 (b.length / w) = i + r →
  Run T (Res [.tmp 4] (rowsA .lst (lstR (mkRows b w)))) (.inLoop Xq65.b0 :: Xq65.k0) (mkE 59 [(0, bytesA f b), (1, .int .i64 w), (5, .ref 0 i 0 i 1), (6, .int .i64 ((i * w : Nat) : Int))]) [rowsSt ((List.range i).map fun j => rowAt b (j * w) w)] := by
 intro r
 induction r with
 | zero =>
  intro i hi
  rw [run_round, run_unfold Xq65.b0.eq_1]
  have hi20 : i ≤ 20 := by omega
  have hiw : i * w ≤ 60 := Nat.mul_le_mul hi20 hw
  have h2 : IntKind.i64.wrap (((i * w : Nat) : Int) + w) = ((i * w + w : Nat) : Int) := by rw [wrap_i64 (by omega) (by omega)]; omega
  have hs := snap_rows (n := 62) (o := 0) (σ := [rowsSt ((List.range i).map fun j => rowAt b (j * w) w)]) (X := (List.range i).map fun j => rowAt b (j * w) w) rfl
  rw [List.length_map, List.length_range] at hs
  have hm : (List.range i).map (fun j => rowAt b (j * w) w) = mkRows b w := by unfold mkRows; rw [hi]; simp
  have hml : (mkRows b w).length = i := by rw [← hm]; simp
  rw [hm] at hs ⊢
  by_cases h1 : i * w + w ≤ b.length
  ·have h3 : (i + 1) * w ≤ b.length := by rw [Nat.add_mul, Nat.one_mul]; exact h1
   have h4 : i + 1 ≤ b.length / w := (Nat.le_div_iff_mul_le hw0).2 h3
   have h5 : ¬ (i : Int) < 20 := by omega
   have h1' : ((i * w + w : Nat) : Int) ≤ (b.length : Int) := by omega
   simp (maxSteps := 2000000) only [go_sem, h2, h1', show (0 : Int) < w by omega, h5, run_unfold Xq65.c0.eq_1, run_unfold Xq65.c1.eq_1, run_unfold Xq65.c2.eq_1, run_unfold Xq65.c3.eq_1, Xq65.k0, Xq65.k1, hs, hml]
  ·have h1' : ¬ ((i * w + w : Nat) : Int) ≤ (b.length : Int) := by omega
   simp (maxSteps := 2000000) only [go_sem, h2, h1', run_unfold Xq65.c0.eq_1, run_unfold Xq65.c1.eq_1, run_unfold Xq65.c2.eq_1, run_unfold Xq65.c3.eq_1, Xq65.k0, Xq65.k1, hs, hml]
 | succ r ih =>
  intro i hi
  rw [run_round, run_unfold Xq65.b0.eq_1]
  have hi20 : i < 20 := by omega
  have hiw : i * w ≤ 60 := Nat.mul_le_mul (show i ≤ 20 by omega) hw
  have h2 : IntKind.i64.wrap (((i * w : Nat) : Int) + w) = ((i * w + w : Nat) : Int) := by rw [wrap_i64 (by omega) (by omega)]; omega
  have h3 : (i + 1) * w ≤ b.length := (Nat.le_div_iff_mul_le hw0).1 (by omega)
  have h1 : i * w + w ≤ b.length := by rw [Nat.add_mul, Nat.one_mul] at h3; exact h3
  have ih' := ih (i + 1) (by omega)
  rw [List.range_succ, List.map_append, List.map_cons, List.map_nil, Nat.add_mul, Nat.one_mul] at ih'
  have h1' : ((i * w + w : Nat) : Int) ≤ (b.length : Int) := by omega
  have h5 : (i : Int) < 20 := by omega
  simp (maxSteps := 2000000) only [go_sem, h2, h1', show (0 : Int) < w by omega, h5, List.length_range, if_true]
  refine Xq65_inner (X := (List.range i).map fun j => rowAt b (j * w) w) hb hby h1 hw ?_ 0 (by omega)
  rw [run_round, run_unfold Xq65.b1.eq_1]
  simp (maxSteps := 2000000) only [go_sem, run_unfold Xq65.c0.eq_1, run_unfold Xq65.c1.eq_1, run_unfold Xq65.c2.eq_1, run_unfold Xq65.c3.eq_1, Xq65.k0, Xq65.k1, Nat.lt_irrefl]
  rw [freeze_row (r := rowAt b (i * w) w) rowAt_len rfl]
  simp (maxSteps := 2000000) only [go_sem]
  rw [appendV_push (nl := false) (nl' := false) rfl rfl (by simp) (by rw [sv_lst]; rfl) (by simp only [maxBytes]; omega)]
  have hap : ((List.range i).map fun j => rowAt b (j * w) w).map (fun r => rowA .lst r) ++ [rowA .lst (rowAt b (i * w) w)] = (((List.range i).map fun j => rowAt b (j * w) w) ++ [rowAt b (i * w) w]).map (fun r => rowA .lst r) := by simp
  simp (maxSteps := 2000000) only [go_sem, run_unfold Xq65.c0.eq_1, run_unfold Xq65.c1.eq_1, run_unfold Xq65.c2.eq_1, run_unfold Xq65.c3.eq_1, Xq65.k0, Xq65.k1, h2]
  rw [hap]
  exact ⟨v_names_map (fun _ => sv_pure) _, ih'⟩

theorem Xq65_spec {f : SlF} {b : List Nat} {w : Nat} (hb : b.length < 9223372036854775808) (hby : ∀ x ∈ b, x < 256) (hw0 : 0 < w) (hw : w ≤ 3) {lv : List Nat} {σ : Sto} {R : Post} : Cw T true i_Xq65 [bytesA f b, .int .i64 (w : Int)] lv σ R ↔ R (rowsA .lst (lstR (mkRows b w))) σ := by
 refine cw_intro T_Xq65 (by simp only [go_sem]) (by simp) ?_; rw [run_unfold Xq65.main.eq_1]
 have := Xq65_loop (f := f) hb hby hw0 hw (min 20 (b.length / w)) 0 (by omega)
 simp only [Nat.zero_mul] at this
 simp (maxSteps := 2000000) only [go_sem]
 exact this
@[go_sem] theorem Xq65_call {f : SlF} {b : List Nat} {w : Nat} (hb : b.length < 9223372036854775808) (hby : ∀ x ∈ b, x < 256) (hw0 : 0 < w) (hw : w ≤ 3) {Q : Post3} {k : List Item} {os : List AOper} {d : Option Nat} {e : Env} {σ : Sto} : CallK T Q k os d e σ true i_Xq65 [bytesA f b, .int .i64 (w : Int)] ↔ Run T Q (.ops os :: k) (put e d (rowsA .lst (lstR (mkRows b w)))) σ := Xq65_spec hb hby hw0 hw

end Go.Abs
/- Walks of chapter 40: two rows in one; whether lists have their columns. -/
set_option linter.unusedSimpArgs false
set_option linter.unusedVariables false
set_option maxRecDepth 100000
set_option maxHeartbeats 4000000
namespace Go.Abs
open Go
attribute [local go_sem_proc] Nat.reduceLT Nat.reduceEqDiff Nat.reduceLeDiff Nat.reduceAdd Nat.reduceSub Nat.reduceMul Int.reduceLT Int.reduceLE Int.reduceEq Int.reduceNeg
attribute [local go_sem_proc ↓] reduceIte

theorem sv_ne {k : Nat} {f : SlF} {xs : List AVal} (h : xs ≠ []) : sv k f xs = .list k xs := by
 cases xs with
 | nil => exact absurd rfl h
 | cons x xs => cases f <;> rfl
theorem rowA_ne {f : SlF} {r : List Val} (h : r ≠ []) : rowA f r = rowA .lst r := by rw [rowA, sv_ne (by simpa using h), rowA, sv_lst]
abbrev refV (o : Nat) (r : List Val) : AVal := .ref o (r.length * 3) 0 r.length 3
abbrev rowO (r : List Val) : AObj := .cells false (cellsV r)

theorem clone_row {f : SlF} {x : List Val} {σ : Sto} {R : Post} (h : x ≠ []) (hl : x.length ≤ 1000000) : Cw T false i_Xq10 [rowA f x] [] σ R ↔ R (refV σ.length x) (σ ++ [rowO x]) := by
 rw [rowA_ne h]
 rw [cw_enter T_Xq10 (by simp), run_unfold Xq10.main.eq_1]
 simp (maxSteps := 2000000) only [go_sem, show eqnilV false .sl (rowA .lst x) σ = some (.bool false, σ) from by rw [rowA, sv_lst]; rfl]
 have ha := appendV_structs (σ := σ ++ [.cells false []]) (o := σ.length) (k := 3) (bytes := 32) (f := .lst) (g := fun v : Val => [.int .i64 v.k, .int .i64 v.i, .str v.s]) (X := []) (Y := x) (by decide) (fun _ => rfl) (fun _ => rfl) get_last (by simp [maxBytes]; omega)
 simp only [List.length_nil, Nat.zero_mul, List.nil_append, set_last] at ha
 rw [show appendV 3 32 (.ref σ.length 0 0 0 3) (rowA .lst x) (σ ++ [.cells false []]) = some (refV σ.length x, σ ++ [rowO x]) from ha]
 simp (maxSteps := 2000000) only [go_sem]

theorem snap_row {n o : Nat} {σ : Sto} {r : List Val} (hσ : σ[o]? = some (rowO r)) : snapA σ (n + 2) (refV o r) = some (rowA .lst r) := by
 rw [snapA_refN hσ (cellsV_len r) rfl (by decide) cellsV_pure, rowA_chunk]

theorem Xq53_spec {f g : SlF} {x y : List Val} (h : 0 < x.length) (hl : x.length ≤ 1000000) (hy : y.length ≤ 1000000) {lv : List Nat} {σ : Sto} {R : Post} : Cw T true i_Xq53 [rowA f x, rowA g y] lv σ R ↔ R (rowA .lst (x ++ y)) σ := by
 refine cw_intro T_Xq53 (by simp only [go_sem]) (by simp) ?_; rw [run_unfold Xq53.main.eq_1]
 have hx : x ≠ [] := fun e => by rw [e] at h; simp at h
 have hc := fun {Q k os d e σ} => callK_shared (T := T) (Q := Q) (k := k) (os := os) (d := d) (e := e) (σ := σ) (clone_row (f := f) (σ := σ) hx hl)
 simp (maxSteps := 2000000) only [go_sem, hc]
 have ha := appendV_structs (σ := [rowO x]) (o := 0) (k := 3) (bytes := 32) (f := g) (g := fun v : Val => [.int .i64 v.k, .int .i64 v.i, .str v.s]) (X := x) (Y := y) (by decide) (fun _ => rfl) (fun _ => rfl) rfl (by simp only [maxBytes]; omega)
 rw [show appendV 3 32 (refV 0 x) (rowA g y) [rowO x] = some (refV 0 (x ++ y), [rowO (x ++ y)]) from ha]
 simp (maxSteps := 2000000) only [go_sem, snap_row (n := 62) (o := 0) (σ := [rowO (x ++ y)]) (r := x ++ y) rfl]
@[go_sem] theorem Xq53_call {f g : SlF} {x y : List Val} (h : 0 < x.length) (hl : x.length ≤ 1000000) (hy : y.length ≤ 1000000) {Q : Post3} {k : List Item} {os : List AOper} {d : Option Nat} {e : Env} {σ : Sto} : CallK T Q k os d e σ true i_Xq53 [rowA f x, rowA g y] ↔ Run T Q (.ops os :: k) (put e d (rowA .lst (x ++ y))) σ := Xq53_spec h hl hy


def shortP (n : Int) (p : SlF × List Val) : Bool := decide ((p.2.length : Int) ≤ n)
def ixI (o : Option Nat) (i : Nat) : Int := match o with
 | some j => ((i + j : Nat) : Int)
 | none => -1
def fitB (a : Rows) (n : Int) : Bool := decide (0 ≤ n) && !(a.any (shortP n))

@[go_sem] theorem iaB0 {o gen off : Nat} {σ : Sto} : iaddrAV 2 1 (.ptr o gen off) (.int .i64 0) σ = some (.ptr o gen (off + 0), σ) := rfl
@[go_sem] theorem iaB1 {o gen off : Nat} {σ : Sto} : iaddrAV 2 1 (.ptr o gen off) (.int .i64 1) σ = some (.ptr o gen (off + 1), σ) := rfl
@[go_sem] theorem iaC0 {cs : List AVal} {a b : AVal} {σ : Sto} : iaddrAV 2 1 (.fptr [a, b]) (.int .i64 0) σ = some (.fptr [a, b], σ) := rfl
@[go_sem] theorem iaC1 {cs : List AVal} {a b : AVal} {σ : Sto} : iaddrAV 2 1 (.fptr [a, b]) (.int .i64 1) σ = some (.fptr [b], σ) := rfl

theorem Xq33_spec {f : SlF} {r : List Val} {n : Int} {lv : List Nat} {σ : Sto} {R : Post} : Cw T true i_Xq33 [rowA f r, .fptr [.int .i64 n]] lv σ R ↔ R (.bool (decide ((r.length : Int) ≤ n))) σ := by
 refine cw_intro T_Xq33 (by simp only [go_sem]) (by simp) ?_; rw [run_unfold Xq33.main.eq_1]
 simp (maxSteps := 2000000) only [go_sem]
 done
@[go_sem] theorem Xq33_call {f : SlF} {r : List Val} {n : Int} {Q : Post3} {k : List Item} {os : List AOper} {d : Option Nat} {e : Env} {σ : Sto} : CallK T Q k os d e σ true i_Xq33 [rowA f r, .fptr [.int .i64 n]] ↔ Run T Q (.ops os :: k) (put e d (.bool (decide ((r.length : Int) ≤ n)))) σ := Xq33_spec


abbrev fitC (n : Int) : AVal := .clo (.func i_Xq33) [] [.fptr [.int .i64 n]]
theorem ix_loop {f : SlF} {a : Rows} {n : Int} (ha : RowsFit a) : ∀ i, i ≤ a.length →
  Run T (Res [.tmp 4] (.int .i64 (ixI ((a.drop i).findIdx? (shortP n)) i))) (.inLoop Xq9.b0 :: Xq9.k0) (mkE 19 [(0, rowsA f a), (1, fitC n), (7, .int .i64 a.length), (8, .int .i64 i)]) [] := by
 have ha1 := ha.1
 refine up_ind ?_ fun i hi ih => ?_
 ·rw [run_round, run_unfold Xq9.b0.eq_1]
  simp (maxSteps := 2000000) only [go_sem, run_unfold Xq9.c0.eq_1, run_unfold Xq9.c1.eq_1, Xq9.k0, List.drop_length, List.findIdx?_nil, ixI]
  done
 ·rw [run_round, run_unfold Xq9.b0.eq_1]
  rw [List.drop_eq_getElem_cons hi, List.findIdx?_cons]
  by_cases h : (a[i].2.length : Int) ≤ n
  ·simp (maxSteps := 2000000) only [go_sem, hi, h, shortP, ixI, Nat.add_zero, run_unfold Xq9.c0.eq_1, run_unfold Xq9.c1.eq_1, Xq9.k0]
   done
  ·have h1 : shortP n a[i] = false := by simp [shortP, h]
   have e : ixI (Option.map (fun x => x + 1) ((a.drop (i + 1)).findIdx? (shortP n))) i = ixI ((a.drop (i + 1)).findIdx? (shortP n)) (i + 1) := by
    cases (a.drop (i + 1)).findIdx? (shortP n) with
    | none => rfl
    | some j => simp only [Option.map_some, ixI]; omega
   simp (maxSteps := 2000000) only [go_sem, hi, h, h1, Bool.false_eq_true, e, wrap_succ (show i < 9223372036854775807 by omega), run_unfold Xq9.c0.eq_1, run_unfold Xq9.c1.eq_1, Xq9.k0]
   exact ih

theorem Xq9_spec {f : SlF} {a : Rows} {n : Int} (ha : RowsFit a) {lv : List Nat} {σ : Sto} {R : Post} : Cw T true i_Xq9 [rowsA f a, fitC n] lv σ R ↔ R (.int .i64 (ixI (a.findIdx? (shortP n)) 0)) σ := by
 refine cw_intro T_Xq9 (by simp only [go_sem]) (by simp) ?_; rw [run_unfold Xq9.main.eq_1]
 have := ix_loop (f := f) (n := n) ha 0 (by omega)
 simp only [List.drop_zero] at this
 simp (maxSteps := 2000000) only [go_sem]
 exact this
@[go_sem] theorem Xq9_call {f : SlF} {a : Rows} {n : Int} (ha : RowsFit a) {Q : Post3} {k : List Item} {os : List AOper} {d : Option Nat} {e : Env} {σ : Sto} : CallK T Q k os d e σ true i_Xq9 [rowsA f a, fitC n] ↔ Run T Q (.ops os :: k) (put e d (.int .i64 (ixI (a.findIdx? (shortP n)) 0))) σ := Xq9_spec ha


theorem Xq6_spec {f : SlF} {a : Rows} {n : Int} (ha : RowsFit a) {lv : List Nat} {σ : Sto} {R : Post} : Cw T true i_Xq6 [rowsA f a, fitC n] lv σ R ↔ R (.bool (a.any (shortP n))) σ := by
 refine cw_intro T_Xq6 (by simp only [go_sem]) (by simp) ?_; rw [run_unfold Xq6.main.eq_1]
 have e : a.any (shortP n) = decide (0 ≤ ixI (a.findIdx? (shortP n)) 0) := by
  rw [← List.findIdx?_isSome]
  cases a.findIdx? (shortP n) with
  | none => simp [ixI]
  | some j => simp [ixI]
 rw [e]
 simp (maxSteps := 2000000) only [go_sem, Xq9_call ha]
@[go_sem] theorem Xq6_call {f : SlF} {a : Rows} {n : Int} (ha : RowsFit a) {Q : Post3} {k : List Item} {os : List AOper} {d : Option Nat} {e : Env} {σ : Sto} : CallK T Q k os d e σ true i_Xq6 [rowsA f a, fitC n] ↔ Run T Q (.ops os :: k) (put e d (.bool (a.any (shortP n)))) σ := Xq6_spec ha


theorem snapA_ptrN {n o gen : Nat} {nl : Bool} {cs : List AVal} {σ : Sto} (hσ : σ[o]? = some (.cells nl cs)) (hl : cs.length = gen) (hp : AVal.pures cs = true) : snapA σ (n + 2) (.ptr o gen 0) = some (.fptr cs) := by
 have h0 : (AVal.ptr o gen 0).pure = false := by simp [AVal.names]
 rw [snapA, h0]
 simp only [Bool.false_eq_true, if_false, hσ, hl, if_true, List.drop_zero, mapM_snapN hp, Option.map_some]
theorem snap_clo1 {σ : Sto} {n o gen : Nat} {nl : Bool} {cs : List AVal} {g : Fn} (hσ : σ[o]? = some (.cells nl cs)) (hl : cs.length = gen) (hp : AVal.pures cs = true) : snapA σ (n + 3) (.clo g [] [.ptr o gen 0]) = some (.clo g [] [.fptr cs]) := by
 have h0 : (AVal.clo g [] [.ptr o gen 0]).pure = false := by simp [AVal.names, AVal.namesL]
 rw [snapA, h0]
 simp only [Bool.false_eq_true, if_false, List.mapM_nil, Option.pure_def, List.mapM_cons, snapA_ptrN hσ hl hp, Option.bind_eq_bind, Option.bind_some]
theorem snap_clo2 {σ : Sto} {n o o' gen gen' : Nat} {nl nl' : Bool} {cs cs' : List AVal} {g : Fn} (hσ : σ[o]? = some (.cells nl cs)) (hl : cs.length = gen) (hp : AVal.pures cs = true) (hσ' : σ[o']? = some (.cells nl' cs')) (hl' : cs'.length = gen') (hp' : AVal.pures cs' = true) :
  snapA σ (n + 3) (.clo g [] [.ptr o gen 0, .ptr o' gen' 0]) = some (.clo g [] [.fptr cs, .fptr cs']) := by
 have h0 : (AVal.clo g [] [.ptr o gen 0, .ptr o' gen' 0]).pure = false := by simp [AVal.names, AVal.namesL]
 rw [snapA, h0]
 simp only [Bool.false_eq_true, if_false, List.mapM_nil, Option.pure_def, List.mapM_cons, snapA_ptrN hσ hl hp, snapA_ptrN hσ' hl' hp', Option.bind_eq_bind, Option.bind_some]

theorem Xq45_spec {f : SlF} {a : Rows} {n : Int} (ha : RowsFit a) {lv : List Nat} {σ : Sto} {R : Post} : Cw T true i_Xq45 [rowsA f a, .int .i64 n] lv σ R ↔ R (.bool (fitB a n)) σ := by
 refine cw_intro T_Xq45 (by simp only [go_sem]) (by simp) ?_; rw [run_unfold Xq45.main.eq_1]
 by_cases h : 0 ≤ n
 ·simp (maxSteps := 2000000) only [go_sem, h, fitB]
  have e1 : snapA [AObj.cells false [AVal.int .i64 n]] snapDepth (rowsA f a) = some (rowsA f a) := snapA_pure sv_pure
  have e2 : snapA [AObj.cells false [AVal.int .i64 n]] snapDepth (.clo (.func i_Xq33) [] [.ptr 0 1 0]) = some (fitC n) := snap_clo1 (n := 61) (nl := false) rfl rfl (by simp (maxSteps := 2000000) only [go_sem])
  rw [callK_live T_Xq6 (as := [rowsA f a, fitC n]) (Xq6_spec ha) (by simp only [List.mapM_cons, List.mapM_nil, e1, e2, Option.pure_def, Option.bind_eq_bind, Option.bind_some]) (by simp (maxSteps := 2000000) only [go_sem]) rfl]
  simp (maxSteps := 2000000) only [go_sem]
  done
 ·simp (maxSteps := 2000000) only [go_sem, h, fitB]
@[go_sem] theorem Xq45_call {f : SlF} {a : Rows} {n : Int} (ha : RowsFit a) {Q : Post3} {k : List Item} {os : List AOper} {d : Option Nat} {e : Env} {σ : Sto} : CallK T Q k os d e σ true i_Xq45 [rowsA f a, .int .i64 n] ↔ Run T Q (.ops os :: k) (put e d (.bool (fitB a n))) σ := Xq45_spec ha


theorem Xq58_spec {f g : SlF} {a b : Rows} {i j : Int} (ha : RowsFit a) (hb : RowsFit b) {lv : List Nat} {σ : Sto} {R : Post} : Cw T true i_Xq58 [rowsA f a, rowsA g b, .agg [.int .i64 i, .int .i64 j]] lv σ R ↔ R (.bool (fitB a i && fitB b j)) σ := by
 refine cw_intro T_Xq58 (by simp only [go_sem]) (by simp) ?_; rw [run_unfold Xq58.main.eq_1]
 cases h : fitB a i with
 | false => simp (maxSteps := 2000000) only [go_sem, Xq45_call ha, h, Bool.false_and]
 | true => simp (maxSteps := 2000000) only [go_sem, Xq45_call ha, Xq45_call hb, h, Bool.true_and]
@[go_sem] theorem Xq58_call {f g : SlF} {a b : Rows} {i j : Int} (ha : RowsFit a) (hb : RowsFit b) {Q : Post3} {k : List Item} {os : List AOper} {d : Option Nat} {e : Env} {σ : Sto} : CallK T Q k os d e σ true i_Xq58 [rowsA f a, rowsA g b, .agg [.int .i64 i, .int .i64 j]] ↔ Run T Q (.ops os :: k) (put e d (.bool (fitB a i && fitB b j))) σ := Xq58_spec ha hb


abbrev onF (i j : Int) : AVal := .fptr [.int .i64 i, .int .i64 j]
theorem Xq52_spec {g : SlF} {b : Rows} {i j : Int} {lv : List Nat} {σ : Sto} {R : Post} : Cw T true i_Xq52 [rowsA g b, .agg [.int .i64 i, .int .i64 j]] lv σ R ↔ R (.clo (.func i_Xq37) [] [.fptr [rowsA g b], onF i j]) σ := by
 refine cw_intro T_Xq52 (by simp only [go_sem]) (by simp) ?_; rw [run_unfold Xq52.main.eq_1]
 have hs := snap_clo2 (n := 61) (o := 0) (o' := 1) (gen := 1) (gen' := 2) (nl := false) (nl' := false) (cs := [rowsA g b]) (cs' := [.int .i64 i, .int .i64 j]) (g := .func i_Xq37) (σ := [.cells false [rowsA g b], .cells false [.int .i64 i, .int .i64 j]]) rfl rfl (by simp (maxSteps := 2000000) only [go_sem]) rfl rfl (by simp (maxSteps := 2000000) only [go_sem])
 simp (maxSteps := 2000000) only [go_sem, hs]
 done
@[go_sem] theorem Xq52_call {g : SlF} {b : Rows} {i j : Int} {Q : Post3} {k : List Item} {os : List AOper} {d : Option Nat} {e : Env} {σ : Sto} : CallK T Q k os d e σ true i_Xq52 [rowsA g b, .agg [.int .i64 i, .int .i64 j]] ↔ Run T Q (.ops os :: k) (put e d (.clo (.func i_Xq37) [] [.fptr [rowsA g b], onF i j])) σ := Xq52_spec


theorem loop1_call {f g : SlF} {x : List Val} {b : Rows} {i j : Int} {σ : Sto} {R : Post} : Cw T false i_Xq37 [rowA f x, .fptr [rowsA g b], onF i j] [] σ R ↔
  R (.clo (.func i_Xq22) [] [.fptr [rowsA g b], .ptr σ.length 1 0, onF i j]) (σ ++ [.cells false [rowA f x]]) := by
 rw [cw_enter T_Xq37 (by simp), run_unfold Xq37.main.eq_1]
 simp (maxSteps := 2000000) only [go_sem]
 done
end Go.Abs
/- Walks of chapter 40: iterators. -/
set_option linter.unusedSimpArgs false
set_option linter.unusedVariables false
set_option maxRecDepth 100000
set_option maxHeartbeats 4000000
namespace Go.Abs
open Go
attribute [local go_sem_proc] Nat.reduceLT Nat.reduceEqDiff Nat.reduceLeDiff Nat.reduceAdd Nat.reduceSub Nat.reduceMul Int.reduceLT Int.reduceLE Int.reduceEq Int.reduceNeg
attribute [local go_sem_proc ↓] reduceIte

theorem ba_beq (a b : ByteArray) : (a == b) = decide (a = b) := by
 obtain ⟨x⟩ := a
 obtain ⟨y⟩ := b
 have h1 : ((⟨x⟩ : ByteArray) == ⟨y⟩) = (x == y) := rfl
 rw [h1, Bool.eq_iff_iff, beq_iff_eq, decide_eq_true_iff]
 exact ⟨fun h => by rw [h], fun h => by injection h⟩
@[go_sem] theorem eqsV_val {neg : Bool} {k k' i i' : Int} {s s' : ByteArray} {σ : Sto} : eqsV neg (.row [(0, 1, false, .int .i64), (1, 1, false, .int .i64), (2, 1, false, .str)]) (.agg [.int .i64 k, .int .i64 i, .str s]) (.agg [.int .i64 k', .int .i64 i', .str s']) σ = some (.bool (if neg = true then !decide ((⟨k, i, s⟩ : Val) = ⟨k', i', s'⟩) else decide ((⟨k, i, s⟩ : Val) = ⟨k', i', s'⟩)), σ) := by
 have : eqA (.row [(0, 1, false, .int .i64), (1, 1, false, .int .i64), (2, 1, false, .str)]) (.agg [.int .i64 k, .int .i64 i, .str s]) (.agg [.int .i64 k', .int .i64 i', .str s']) = some (decide ((⟨k, i, s⟩ : Val) = ⟨k', i', s'⟩)) := by
  rw [eqA, eqParts]
  simp only [Val.mk.injEq, eqA, eqParts, ba_beq, List.getElem?_cons_zero, List.getElem?_cons_succ, Bool.false_eq_true, if_false, if_true]
  cases h1 : decide (k = k') <;> cases h2 : decide (i = i') <;> cases h3 : decide (s = s') <;> simp_all
 simp only [eqsV, this]
 cases neg <;> rfl

theorem iaddrV_int' {k : Nat} {f : SlF} {α : Type} {g : α → AVal} {l : List α} {kd : IntKind} {i : Int} {σ : Sto} (h : 0 ≤ i ∧ i < l.length) : iaddrV k (sv k f (l.map g)) (.int kd i) σ = some (.fptr (g (l[i.toNat]'(by omega))).cells, σ) := iaddrV_int h.1 (by omega)
def colN (r : List Val) (c : Int) : Val := r.getD c.toNat ⟨0, 0, ⟨#[]⟩⟩
theorem colN_get {r : List Val} {c : Int} (h : 0 ≤ c ∧ c < r.length) : r[c.toNat]'(by omega) = colN r c := by
 unfold colN
 rw [List.getD_eq_getElem?_getD, List.getElem?_eq_getElem (by omega)]; rfl

def Yields (o : Nat) (y : AVal) (σ : Sto) (b : Bool) (τ : Sto) : Prop := ∀ R : Post, R (.bool b) τ → Cw T false yieldF [.yld o, y] [] σ R
inductive Its (G : Sto → Prop) (o : Nat) : List AVal → Sto → Sto → Prop
 | nil {σ : Sto} : G σ → Its G o [] σ σ
 | more {y : AVal} {ys : List AVal} {σ σ1 σ2 : Sto} : G σ → Yields o y σ true σ1 → Its G o ys σ1 σ2 → Its G o (y :: ys) σ σ2
 | stop {y : AVal} {ys : List AVal} {σ σ1 : Sto} : G σ → Yields o y σ false σ1 → Its G o (y :: ys) σ σ1
theorem Its.good {G : Sto → Prop} {o : Nat} {ys : List AVal} {σ τ : Sto} (h : Its G o ys σ τ) : G σ := by cases h <;> assumption
theorem Yields.call {o : Nat} {y : AVal} {σ τ : Sto} {b : Bool} (h : Yields o y σ b τ) {Q : Post3} {k : List Item} {os : List AOper} {d : Option Nat} {e : Env} (hr : Run T Q (.ops os :: k) (put e d (.bool b)) τ) : CallK T Q k os d e σ false yieldF [.yld o, y] := h _ hr

def partP (x : List Val) (i j : Int) (p : SlF × List Val) : Bool := !decide ((colN x i).k = 0) && decide (colN x i = colN p.2 j)
theorem val_eta (v : Val) : (⟨v.k, v.i, v.s⟩ : Val) = v := rfl

theorem loop11_loop {g fx : SlF} {b : Rows} {i j : Int} {x : List Val} {ox o L : Nat} {G : Sto → Prop} (hG : ∀ τ, G τ → τ.length = L ∧ τ.all (AObj.under L) = true ∧ τ[ox]? = some (.cells false [rowA fx x])) (ho : o < L) (hox : ox < L)
  (hb : RowsFit b) (hi : 0 ≤ i ∧ i < x.length) (hj : ∀ p ∈ b, 0 ≤ j ∧ j < p.2.length) {R : Post} {τ : Sto} (hR : R (.tup []) τ) : ∀ k, k ≤ b.length → ∀ σ, Its G o (((b.drop k).filter (partP x i j)).map fun p => rowA p.1 p.2) σ τ →
  Run T (Ret [] R) (.inLoop Xq22.b0 :: Xq22.k0) (mkE 40 [(0, .yld o), (1, .fptr [rowsA g b]), (2, .ptr ox 1 0), (3, onF i j), (7, rowsA g b), (8, .int .i64 b.length), (9, .int .i64 k)]) σ := by
 have hb1 := hb.1
 refine up_ind (fun σ h => ?_) fun k hk ih σ h => ?_
 ·rw [List.drop_length, List.filter_nil, List.map_nil] at h
  cases h
  rw [run_round, run_unfold Xq22.b0.eq_1]
  simp (maxSteps := 2000000) only [go_sem, run_unfold Xq22.c0.eq_1, Xq22.k0]
  exact hR
 ·rw [run_round, run_unfold Xq22.b0.eq_1]
  obtain ⟨g1, g2, g3⟩ := hG _ h.good
  rw [List.drop_eq_getElem_cons hk] at h
  have hjk := hj _ (List.getElem_mem hk)
  have a1 := fun {σ : Sto} => @iaddrV_int' 3 fx Val (fun v => .agg [.int .i64 v.k, .int .i64 v.i, .str v.s]) x .i64 i σ hi
  have a2 := fun {σ : Sto} => @iaddrV_int' 3 b[k].1 Val (fun v => .agg [.int .i64 v.k, .int .i64 v.i, .str v.s]) b[k].2 .i64 j σ hjk
  simp only [colN_get hi] at a1
  simp only [colN_get hjk] at a2
  by_cases h1 : (colN x i).k = 0
  ·have hf : partP x i j b[k] = false := by simp [partP, h1]
   rw [List.filter_cons_of_neg (by rw [hf]; simp)] at h
   simp (maxSteps := 2000000) only [go_sem, hk, g3, a1, a2, h1, val_eta]
   rw [List.take_of_length_le (Nat.le_refl _), g1, if_pos ho, if_pos hox, wrap_succ (by omega)]
   exact ⟨g2, ih _ h⟩
  ·by_cases h2 : colN x i = colN b[k].2 j
   ·have hf : partP x i j b[k] = true := by rw [partP, decide_eq_true h2, decide_eq_false h1]; rfl
    rw [List.filter_cons_of_pos hf, List.map_cons] at h
    have h2' : decide (colN x i = colN b[k].2 j) = true := by simp [h2]
    simp (maxSteps := 2000000) only [go_sem, hk, g3, a1, a2, h1, val_eta, h2']
    cases h with
    | more q1 q2 q3 =>
     refine q2.call ?_
     obtain ⟨p1, p2, p3⟩ := hG _ q3.good
     simp (maxSteps := 2000000) only [go_sem]
     rw [g1, List.take_of_length_le (by omega), if_pos ho, if_pos hox, wrap_succ (by omega)]
     exact ⟨p2, ih _ q3⟩
    | stop q1 q2 =>
     refine q2.call ?_
     simp (maxSteps := 2000000) only [go_sem]
     exact hR
   ·have hf : partP x i j b[k] = false := by simp [partP, h2]
    rw [List.filter_cons_of_neg (by rw [hf]; simp)] at h
    have h2' : decide (colN x i = colN b[k].2 j) = false := by simp [h2]
    simp (maxSteps := 2000000) only [go_sem, hk, g3, a1, a2, h1, val_eta, h2']
    rw [List.take_of_length_le (Nat.le_refl _), g1, if_pos ho, if_pos hox, wrap_succ (by omega)]
    exact ⟨g2, ih _ h⟩

theorem loop11_iter {g fx : SlF} {b : Rows} {i j : Int} {x : List Val} {ox o L : Nat} {G : Sto → Prop} (hG : ∀ τ, G τ → τ.length = L ∧ τ.all (AObj.under L) = true ∧ τ[ox]? = some (.cells false [rowA fx x])) (ho : o < L) (hox : ox < L)
  (hb : RowsFit b) (hi : 0 ≤ i ∧ i < x.length) (hj : ∀ p ∈ b, 0 ≤ j ∧ j < p.2.length) {R : Post} {σ τ : Sto} (h : Its G o ((b.filter (partP x i j)).map fun p => rowA p.1 p.2) σ τ) (hR : R (.tup []) τ) :
  Cw T false i_Xq22 [.yld o, .fptr [rowsA g b], .ptr ox 1 0, onF i j] [] σ R := by
 rw [cw_enter T_Xq22 (by simp), run_unfold Xq22.main.eq_1]
 simp (maxSteps := 2000000) only [go_sem]
 exact loop11_loop hG ho hox hb hi hj hR 0 (by omega) σ (by simpa using h)
end Go.Abs
/- Walks of chapter 40: rows are collected. -/
set_option linter.unusedSimpArgs false
set_option linter.unusedVariables false
set_option maxRecDepth 100000
set_option maxHeartbeats 4000000
namespace Go.Abs
open Go
attribute [local go_sem_proc] Nat.reduceLT Nat.reduceEqDiff Nat.reduceLeDiff Nat.reduceAdd Nat.reduceSub Nat.reduceMul Int.reduceLT Int.reduceLE Int.reduceEq Int.reduceNeg
attribute [local go_sem_proc ↓] reduceIte

theorem no_yield : T yieldF = none := rfl
theorem putAll_one (n : Nat) (L : List (Nat × AVal)) (p : Nat) (v : AVal) : putAll (mkE n L) [p] [v] = put (mkE n L) (some p) v := rfl
abbrev outO (D : List (List Val)) : AObj := .cells true (D.map fun r => rowA .lst r)
theorem outO_under {l : Nat} {D : List (List Val)} : (outO D).under l = true := v_names_map (fun _ => sv_pure) D

def OfC (g : FuncId) (fs cs : List AVal) (junk : AVal → List AObj) (fx : SlF) (x : List Val) (ys : Rows) : Prop :=
 ∀ σ : Sto, ∃ gi fi ci, (∀ R : Post, R (.clo (.func gi) fi ci) (σ ++ junk (rowA fx x)) → Cw T false g (fs ++ [rowA fx x] ++ cs) [] σ R) ∧
  (AVal.clo (.func gi) fi ci).under (σ.length + (junk (rowA fx x)).length) = true ∧
  ∀ {o L : Nat} {G : Sto → Prop}, (∀ τ, G τ → τ.length = L ∧ τ.all (AObj.under L) = true ∧ ∀ (q : Nat) (ob : AObj), (junk (rowA fx x))[q]? = some ob → τ[σ.length + q]? = some ob) → o < L → σ.length + (junk (rowA fx x)).length ≤ L →
   ∀ {τ0 τ : Sto}, Its G o (ys.map fun p => rowA p.1 p.2) τ0 τ → ∀ {R : Post}, R (.tup []) τ → Cw T false gi (fi ++ [.yld o] ++ ci) [] τ0 R

theorem ofLoop {g fx : SlF} {b : Rows} {i j : Int} {x : List Val} (hb : RowsFit b) (hi : 0 ≤ i ∧ i < x.length) (hj : ∀ p ∈ b, 0 ≤ j ∧ j < p.2.length) :
  OfC i_Xq37 [] [.fptr [rowsA g b], onF i j] (fun x => [.cells false [x]]) fx x (b.filter (partP x i j)) := by
 intro σ
 refine ⟨i_Xq22, [], [.fptr [rowsA g b], .ptr σ.length 1 0, onF i j], fun R hR => loop1_call.2 hR, by simp (maxSteps := 2000000) only [go_sem, List.length_cons, List.length_nil]; omega, fun {o L G} hG ho hL {τ0 τ} h {R} hR => ?_⟩
 exact loop11_iter (ox := σ.length) (L := L) (G := G) (fun τ hτ => ⟨(hG τ hτ).1, (hG τ hτ).2.1, (hG τ hτ).2.2 0 _ rfl⟩) ho (by simp only [List.length_cons, List.length_nil] at hL; omega) hb hi hj h hR

theorem look_names {p : Nat → Bool} : ∀ (L : List (Nat × AVal)) (t : Nat), (∀ q ∈ L, q.2.names p = true) → (look L t).names p = true
 | [], t, h => rfl
 | q :: L, t, h => by
  unfold look
  split
  ·exact h q (by simp)
  ·exact look_names L t fun r hr => h r (by simp [hr])
theorem mkE_names {p : Nat → Bool} {n : Nat} {L : List (Nat × AVal)} (h : ∀ q ∈ L, q.2.names p = true) : AVal.namesL p (mkE n L) = true := v_names_map (fun t => look_names L t h) _

def jrow (part : List Val → Rows) (n : Int) (x : List Val) : List (List Val) := if part x = [] ∧ 0 ≤ n then [x ++ List.replicate n.toNat zV] else (part x).map fun p => x ++ p.2

theorem mkslF_row {n : Int} {σ : Sto} (h0 : 0 ≤ n) (hn : n ≤ 1000) : mkslFV 3 32 [.int .i64 0, .int .i64 0, .str ⟨#[]⟩] (.int .i64 n) (.int .i64 n) σ = some (rowA .lst (List.replicate n.toNat zV), σ) := by
 have hfz : cellsV (List.replicate n.toNat zV) = (List.replicate n.toNat [AVal.int .i64 0, .int .i64 0, .str ⟨#[]⟩]).flatten := by
  rw [cellsV, List.flatMap_def, List.map_replicate]; rfl
 have hc := rowA_chunk (r := List.replicate n.toNat zV)
 rw [List.length_replicate, hfz] at hc
 have hp := cellsV_pure (p := fun _ => false) (r := List.replicate n.toNat zV)
 rw [hfz] at hp
 have e : IntKind.i64.max = 9223372036854775807 := by decide
 have hcond : 0 ≤ n ∧ n = n ∧ 32 * n.toNat ≤ 2 * maxBytes ∧ n ≤ IntKind.i64.max ∧ [AVal.int .i64 0, .int .i64 0, .str ⟨#[]⟩].length = 3 ∧ 0 < 3 ∧ AVal.pures (List.replicate n.toNat [AVal.int .i64 0, .int .i64 0, .str ⟨#[]⟩]).flatten = true :=
  ⟨h0, rfl, by simp only [maxBytes]; omega, by rw [e]; omega, rfl, by decide, hp⟩
 show (if 0 ≤ n ∧ n = n ∧ 32 * n.toNat ≤ 2 * maxBytes ∧ n ≤ IntKind.i64.max ∧ [AVal.int .i64 0, .int .i64 0, .str ⟨#[]⟩].length = 3 ∧ 0 < 3 ∧ AVal.pures (List.replicate n.toNat [AVal.int .i64 0, .int .i64 0, .str ⟨#[]⟩]).flatten = true then some (AVal.list 3 (chunk 3 n.toNat (List.replicate n.toNat [AVal.int .i64 0, .int .i64 0, .str ⟨#[]⟩]).flatten), σ) else none) = _
 rw [if_pos hcond, hc]

theorem AVal.names_imp {p q : Nat → Bool} (h : ∀ o, p o = true → q o = true) : ∀ (v : AVal), v.names p = true → v.names q = true := by
 intro v
 refine AVal.rec (motive_1 := fun v => v.names p = true → v.names q = true) (motive_2 := fun vs => AVal.namesL p vs = true → AVal.namesL q vs = true)
  ?_ ?_ ?_ ?_ ?_ ?_ ?_ ?_ ?_ ?_ ?_ ?_ ?_ ?_ ?_ ?_ ?_ ?_ ?_ ?_ ?_ ?_ ?_ v <;> intros <;> simp_all [AVal.names, AVal.namesL]
theorem AVal.names_le {v : AVal} {m n : Nat} (h : v.under m = true) (hn : m ≤ n) : v.under n = true := AVal.names_imp (fun o ho => by simp at ho ⊢; omega) v h
abbrev cEnv (of : AVal) (n : Int) (f : SlF) (a : Rows) (i : Nat) (it : AVal) : Env := mkE 50 [(1, of), (2, .int .i64 n), (6, .ptr 0 1 0), (7, .ptr 1 1 0), (8, .ptr 2 1 0), (10, .ptr 4 1 0), (11, .ptr 5 1 0), (13, rowsA f a), (14, .int .i64 a.length), (15, .int .i64 i), (21, it)]
abbrev PS1 (e : Env) (fx : SlF) (x : List Val) (D : List (List Val)) (fd : Bool) (st : LSt) : Sto := [.cells false [.nils], .cells false [.int .i64 0], .cells false [.ref 3 D.length 0 D.length 1], outO D, .cells false [rowA fx x], .cells false [.bool fd], .cells false [rowA fx x], .loop [22] Xq27.y0 e st]
theorem collect_yield1 {of it : AVal} {n : Int} {f fx fy : SlF} {a : Rows} {i : Nat} {x y : List Val} {D : List (List Val)} {fd : Bool} (hx : 0 < x.length) (hxl : x.length ≤ 1000000) (hy : y.length ≤ 1000000) (hD : D.length < 4096) (hof : of.under 8 = true) (hit : it.under 7 = true) :
  Yields 7 (rowA fy y) (PS1 (cEnv of n f a i it) fx x D fd .ready) true (PS1 (cEnv of n f a i it) fx x (D ++ [x ++ y]) true .ready) := by
 intro R hR
 rw [cw_yield no_yield]
 have hD' : ¬ ((D.length : Nat) : Int) = 4096 := by omega
 have hap : D.map (fun r => rowA .lst r) ++ [rowA .lst (x ++ y)] = (D ++ [x ++ y]).map (fun r => rowA .lst r) := by simp
 simp (maxSteps := 2000000) only [go_sem, putAll_one, List.length_cons, List.length_nil, true_and]
 rw [run_unfold Xq27.y0.eq_1]
 simp (maxSteps := 2000000) only [go_sem, hD', Xq53_call hx hxl hy]
 rw [appendV_push (nl := true) (nl' := false) rfl rfl (by simp) (by rw [sv_lst]; rfl) (by simp only [maxBytes]; omega)]
 simp (maxSteps := 2000000) only [go_sem]
 rw [v_names_map (fun _ => sv_pure), Bool.true_and]
 refine ⟨mkE_names fun q hq => ?_, ?_⟩
 ·simp only [List.mem_cons, List.not_mem_nil, or_false] at hq
  rcases hq with rfl | rfl | rfl | rfl | rfl | rfl | rfl | rfl | rfl | rfl | rfl
  all_goals first | exact hof | exact AVal.names_le hit (by omega) | exact sv_pure | rfl
 ·simp only [PS1, outO, ← hap, List.length_append, List.length_cons, List.length_nil] at hR
  exact hR

theorem collect_its1 {of it : AVal} {n : Int} {f fx : SlF} {a : Rows} {i : Nat} {x : List Val} (hx : 0 < x.length) (hxl : x.length ≤ 1000000) (hof : of.under 8 = true) (hit : it.under 7 = true) : ∀ (ys : Rows) (D : List (List Val)) (fd : Bool), (∀ p ∈ ys, p.2.length ≤ 1000000) → D.length + ys.length ≤ 4096 →
  Its (fun τ => ∃ D fd, τ = PS1 (cEnv of n f a i it) fx x D fd .ready) 7 (ys.map fun p => rowA p.1 p.2) (PS1 (cEnv of n f a i it) fx x D fd .ready) (PS1 (cEnv of n f a i it) fx x (D ++ ys.map fun p => x ++ p.2) (fd || !ys.isEmpty) .ready)
 | [], D, fd, _, _ => by
  simp only [List.map_nil, List.append_nil, List.isEmpty_nil, Bool.not_true, Bool.or_false]
  exact .nil ⟨D, fd, rfl⟩
 | p :: ys, D, fd, hy, hD => by
  simp only [List.length_cons] at hD
  have h1 := collect_yield1 (of := of) (it := it) (n := n) (f := f) (fx := fx) (fy := p.1) (a := a) (i := i) (x := x) (y := p.2) (D := D) (fd := fd) hx hxl (hy p (by simp)) (by omega) hof hit
  have h2 := collect_its1 (of := of) (it := it) (n := n) (f := f) (fx := fx) (a := a) (i := i) hx hxl hof hit ys (D ++ [x ++ p.2]) true (fun q hq => hy q (by simp [hq])) (by simp only [List.length_append, List.length_cons, List.length_nil]; omega)
  simp only [List.map_cons, List.isEmpty_cons, Bool.not_false, Bool.or_true]
  rw [List.append_assoc, List.singleton_append, Bool.true_or] at h2
  exact .more ⟨D, fd, rfl⟩ h1 h2

theorem collect_good1 {of it : AVal} {n : Int} {f fx : SlF} {a : Rows} {i : Nat} {x : List Val} {D : List (List Val)} {fd : Bool} (hof : of.under 8 = true) (hit : it.under 7 = true) :
  (PS1 (cEnv of n f a i it) fx x D fd .ready).length = 8 ∧ (PS1 (cEnv of n f a i it) fx x D fd .ready).all (AObj.under 8) = true := by
 refine ⟨rfl, ?_⟩
 have h1 : (AVal.unders 8 (cEnv of n f a i it)) = true := mkE_names fun q hq => by
  simp only [List.mem_cons, List.not_mem_nil, or_false] at hq
  rcases hq with rfl | rfl | rfl | rfl | rfl | rfl | rfl | rfl | rfl | rfl | rfl
  all_goals first | exact hof | exact AVal.names_le hit (by omega) | exact sv_pure | rfl
 simp only [PS1, List.all_cons, List.all_nil, outO_under, AObj.under, h1, Bool.and_true, Bool.true_and]
 simp (maxSteps := 2000000) only [go_sem]
 exact v_names_map (fun _ => sv_pure) _

abbrev cE1 (of : AVal) (n : Int) (f : SlF) (a : Rows) (i : Nat) : Env := mkE 50 [(1, of), (2, .int .i64 n), (6, .ptr 0 1 0), (7, .ptr 1 1 0), (8, .ptr 2 1 0), (13, rowsA f a), (14, .int .i64 a.length), (15, .int .i64 i)]
abbrev cS1 (D : List (List Val)) : Sto := [.cells false [.nils], .cells false [.int .i64 0], .cells false [.ref 3 D.length 0 D.length 1], outO D]
theorem collect_loop1 {g : FuncId} {fs cs : List AVal} {n : Int} {f : SlF} {a : Rows} {part : List Val → Rows} {Q : Post3} (ha : RowsFit a) (hn : n ≤ 1000) (hof : (AVal.clo (.func g) fs cs).under 4 = true)
  (hOf : ∀ p ∈ a, OfC g fs cs (fun x => [.cells false [x]]) p.1 p.2 (part p.2)) (hx : ∀ p ∈ a, 0 < p.2.length ∧ p.2.length ≤ 1000000) (hp : ∀ p ∈ a, ∀ q ∈ part p.2, q.2.length ≤ 1000000) {D1 : List (List Val)} (h4 : D1.length ≤ 4096)
  (fin : Run T Q (.inLoop Xq27.b0 :: Xq27.k0) (cE1 (.clo (.func g) fs cs) n f a a.length) (cS1 D1)) : ∀ i, i ≤ a.length → ∀ D, D ++ (a.drop i).flatMap (fun p => jrow part n p.2) = D1 →
   Run T Q (.inLoop Xq27.b0 :: Xq27.k0) (cE1 (.clo (.func g) fs cs) n f a i) (cS1 D) := by
 have ha1 := ha.1
 refine up_ind (fun D hD => ?_) fun i hi ih D hD => ?_
 ·rw [List.drop_length, List.flatMap_nil, List.append_nil] at hD
  rw [hD]; exact fin
 ·rw [List.drop_eq_getElem_cons hi, List.flatMap_cons, ← List.append_assoc] at hD
  have ih' := ih _ hD
  have hlen : D.length + (jrow part n a[i].2).length ≤ 4096 := by
   have := congrArg List.length hD
   simp only [List.length_append] at this; omega
  have hm := List.getElem_mem hi
  obtain ⟨hx1, hx2⟩ := hx _ hm
  obtain ⟨gi, fi, ci, hcall, hund, hiter⟩ := hOf _ hm [.cells false [.nils], .cells false [.int .i64 0], .cells false [.ref 3 D.length 0 D.length 1], outO D, .cells false [rowA a[i].1 a[i].2], .cells false [.bool false]]
  have hys : (part a[i].2).length ≤ (jrow part n a[i].2).length := by
   unfold jrow
   split
   ·rename_i h; rw [h.1]; simp
   ·simp
  rw [run_round, run_unfold Xq27.b0.eq_1]
  simp (maxSteps := 2000000) only [go_sem, hi]
  refine hcall _ ?_
  simp (maxSteps := 2000000) only [go_sem]
  unfold RangeC
  have hof8 : (AVal.clo (.func g) fs cs).under 8 = true := AVal.names_le hof (by omega)
  have hit : (AVal.clo (.func gi) fi ci).under 7 = true := hund
  refine hiter (o := 7) (L := 8) (G := fun τ => ∃ D fd, τ = PS1 (cEnv (.clo (.func g) fs cs) n f a i (.clo (.func gi) fi ci)) a[i].1 a[i].2 D fd .ready) ?_ (by decide) (by simp only [List.length_cons, List.length_nil]; omega) (collect_its1 hx1 hx2 hof8 hit (part a[i].2) D false (hp _ hm) (by omega)) ?_
  ·rintro τ ⟨D', fd', rfl⟩
   obtain ⟨k1, k2⟩ := collect_good1 (of := .clo (.func g) fs cs) (it := .clo (.func gi) fi ci) (n := n) (f := f) (fx := a[i].1) (a := a) (i := i) (x := a[i].2) (D := D') (fd := fd') hof8 hit
   refine ⟨k1, k2, fun q ob hq => ?_⟩
   rcases q with _ | q
   ·first | exact hq | simp at hq
   ·simp at hq
  unfold RangeK
  simp (maxSteps := 2000000) only [go_sem]
  have hof4 := hof
  simp only [AVal.under, AVal.names, Bool.and_eq_true] at hof4
  by_cases hys0 : part a[i].2 = []
  ·rw [hys0]
   by_cases hn0 : 0 ≤ n
   ·have hj : jrow part n a[i].2 = [a[i].2 ++ List.replicate n.toNat zV] := by simp [jrow, hys0, hn0]
    rw [hj] at ih' hlen
    simp only [List.length_cons, List.length_nil] at hlen
    have h96 : ¬ ((D.length : Nat) : Int) = 4096 := by omega
    simp (maxSteps := 2000000) only [go_sem, run_unfold Xq27.c0.eq_1, run_unfold Xq27.c1.eq_1, run_unfold Xq27.c2.eq_1, run_unfold Xq27.c3.eq_1, Xq27.k0, hn0, h96, mkslF_row hn0 hn, Xq53_call hx1 hx2 (show (List.replicate n.toNat zV).length ≤ 1000000 by rw [List.length_replicate]; omega), List.append_nil, List.map_nil, List.isEmpty_nil]
    rw [appendV_push (nl := true) (nl' := false) rfl rfl (by simp) (by rw [sv_lst]; rfl) (by simp only [maxBytes]; omega)]
    have hap : D.map (fun r => rowA .lst r) ++ [rowA .lst (a[i].2 ++ List.replicate n.toNat zV)] = (D ++ [a[i].2 ++ List.replicate n.toNat zV]).map (fun r => rowA .lst r) := by simp
    simp (maxSteps := 2000000) only [go_sem, run_unfold Xq27.c0.eq_1, run_unfold Xq27.c1.eq_1, run_unfold Xq27.c2.eq_1, run_unfold Xq27.c3.eq_1, Xq27.k0, hof4, wrap_succ (show i < 9223372036854775807 by omega)]
    rw [hap]
    simp only [cS1, List.length_append, List.length_cons, List.length_nil, Nat.zero_add] at ih'
    exact ⟨v_names_map (fun _ => sv_pure) _, ih'⟩
   ·have hj : jrow part n a[i].2 = [] := by simp [jrow, hys0, hn0]
    rw [hj, List.append_nil] at ih'
    simp (maxSteps := 2000000) only [go_sem, run_unfold Xq27.c0.eq_1, run_unfold Xq27.c1.eq_1, run_unfold Xq27.c2.eq_1, run_unfold Xq27.c3.eq_1, Xq27.k0, hn0, List.append_nil, List.map_nil, List.isEmpty_nil, hof4, wrap_succ (show i < 9223372036854775807 by omega)]
    exact ⟨v_names_map (fun _ => sv_pure) _, ih'⟩
  ·have hj : jrow part n a[i].2 = (part a[i].2).map fun p => a[i].2 ++ p.2 := by simp [jrow, hys0]
   have he : List.isEmpty (part a[i].2) = false := by simpa using hys0
   rw [hj] at ih'
   simp (maxSteps := 2000000) only [go_sem, run_unfold Xq27.c0.eq_1, run_unfold Xq27.c1.eq_1, run_unfold Xq27.c2.eq_1, run_unfold Xq27.c3.eq_1, Xq27.k0, he, hof4, wrap_succ (show i < 9223372036854775807 by omega)]
   exact ⟨v_names_map (fun _ => sv_pure) _, ih'⟩
abbrev PS0 (e : Env) (fx : SlF) (x : List Val) (D : List (List Val)) (fd : Bool) (st : LSt) : Sto := [.cells false [.nils], .cells false [.int .i64 0], .cells false [.ref 3 D.length 0 D.length 1], outO D, .cells false [rowA fx x], .cells false [.bool fd], .loop [22] Xq27.y0 e st]
theorem collect_yield0 {of it : AVal} {n : Int} {f fx fy : SlF} {a : Rows} {i : Nat} {x y : List Val} {D : List (List Val)} {fd : Bool} (hx : 0 < x.length) (hxl : x.length ≤ 1000000) (hy : y.length ≤ 1000000) (hD : D.length < 4096) (hof : of.under 7 = true) (hit : it.under 6 = true) :
  Yields 6 (rowA fy y) (PS0 (cEnv of n f a i it) fx x D fd .ready) true (PS0 (cEnv of n f a i it) fx x (D ++ [x ++ y]) true .ready) := by
 intro R hR
 rw [cw_yield no_yield]
 have hD' : ¬ ((D.length : Nat) : Int) = 4096 := by omega
 have hap : D.map (fun r => rowA .lst r) ++ [rowA .lst (x ++ y)] = (D ++ [x ++ y]).map (fun r => rowA .lst r) := by simp
 simp (maxSteps := 2000000) only [go_sem, putAll_one, List.length_cons, List.length_nil, true_and]
 rw [run_unfold Xq27.y0.eq_1]
 simp (maxSteps := 2000000) only [go_sem, hD', Xq53_call hx hxl hy]
 rw [appendV_push (nl := true) (nl' := false) rfl rfl (by simp) (by rw [sv_lst]; rfl) (by simp only [maxBytes]; omega)]
 simp (maxSteps := 2000000) only [go_sem]
 rw [v_names_map (fun _ => sv_pure), Bool.true_and]
 refine ⟨mkE_names fun q hq => ?_, ?_⟩
 ·simp only [List.mem_cons, List.not_mem_nil, or_false] at hq
  rcases hq with rfl | rfl | rfl | rfl | rfl | rfl | rfl | rfl | rfl | rfl | rfl
  all_goals first | exact hof | exact AVal.names_le hit (by omega) | exact sv_pure | rfl
 ·simp only [PS0, outO, ← hap, List.length_append, List.length_cons, List.length_nil] at hR
  exact hR

theorem collect_its0 {of it : AVal} {n : Int} {f fx : SlF} {a : Rows} {i : Nat} {x : List Val} (hx : 0 < x.length) (hxl : x.length ≤ 1000000) (hof : of.under 7 = true) (hit : it.under 6 = true) : ∀ (ys : Rows) (D : List (List Val)) (fd : Bool), (∀ p ∈ ys, p.2.length ≤ 1000000) → D.length + ys.length ≤ 4096 →
  Its (fun τ => ∃ D fd, τ = PS0 (cEnv of n f a i it) fx x D fd .ready) 6 (ys.map fun p => rowA p.1 p.2) (PS0 (cEnv of n f a i it) fx x D fd .ready) (PS0 (cEnv of n f a i it) fx x (D ++ ys.map fun p => x ++ p.2) (fd || !ys.isEmpty) .ready)
 | [], D, fd, _, _ => by
  simp only [List.map_nil, List.append_nil, List.isEmpty_nil, Bool.not_true, Bool.or_false]
  exact .nil ⟨D, fd, rfl⟩
 | p :: ys, D, fd, hy, hD => by
  simp only [List.length_cons] at hD
  have h1 := collect_yield0 (of := of) (it := it) (n := n) (f := f) (fx := fx) (fy := p.1) (a := a) (i := i) (x := x) (y := p.2) (D := D) (fd := fd) hx hxl (hy p (by simp)) (by omega) hof hit
  have h2 := collect_its0 (of := of) (it := it) (n := n) (f := f) (fx := fx) (a := a) (i := i) hx hxl hof hit ys (D ++ [x ++ p.2]) true (fun q hq => hy q (by simp [hq])) (by simp only [List.length_append, List.length_cons, List.length_nil]; omega)
  simp only [List.map_cons, List.isEmpty_cons, Bool.not_false, Bool.or_true]
  rw [List.append_assoc, List.singleton_append, Bool.true_or] at h2
  exact .more ⟨D, fd, rfl⟩ h1 h2

theorem collect_good0 {of it : AVal} {n : Int} {f fx : SlF} {a : Rows} {i : Nat} {x : List Val} {D : List (List Val)} {fd : Bool} (hof : of.under 7 = true) (hit : it.under 6 = true) :
  (PS0 (cEnv of n f a i it) fx x D fd .ready).length = 7 ∧ (PS0 (cEnv of n f a i it) fx x D fd .ready).all (AObj.under 7) = true := by
 refine ⟨rfl, ?_⟩
 have h1 : (AVal.unders 7 (cEnv of n f a i it)) = true := mkE_names fun q hq => by
  simp only [List.mem_cons, List.not_mem_nil, or_false] at hq
  rcases hq with rfl | rfl | rfl | rfl | rfl | rfl | rfl | rfl | rfl | rfl | rfl
  all_goals first | exact hof | exact AVal.names_le hit (by omega) | exact sv_pure | rfl
 simp only [PS0, List.all_cons, List.all_nil, outO_under, AObj.under, h1, Bool.and_true, Bool.true_and]
 simp (maxSteps := 2000000) only [go_sem]
 exact v_names_map (fun _ => sv_pure) _

abbrev cE0 (of : AVal) (n : Int) (f : SlF) (a : Rows) (i : Nat) : Env := mkE 50 [(1, of), (2, .int .i64 n), (6, .ptr 0 1 0), (7, .ptr 1 1 0), (8, .ptr 2 1 0), (13, rowsA f a), (14, .int .i64 a.length), (15, .int .i64 i)]
abbrev cS0 (D : List (List Val)) : Sto := [.cells false [.nils], .cells false [.int .i64 0], .cells false [.ref 3 D.length 0 D.length 1], outO D]
theorem collect_loop0 {g : FuncId} {fs cs : List AVal} {n : Int} {f : SlF} {a : Rows} {part : List Val → Rows} {Q : Post3} (ha : RowsFit a) (hn : n ≤ 1000) (hof : (AVal.clo (.func g) fs cs).under 4 = true)
  (hOf : ∀ p ∈ a, OfC g fs cs (fun _ => []) p.1 p.2 (part p.2)) (hx : ∀ p ∈ a, 0 < p.2.length ∧ p.2.length ≤ 1000000) (hp : ∀ p ∈ a, ∀ q ∈ part p.2, q.2.length ≤ 1000000) {D1 : List (List Val)} (h4 : D1.length ≤ 4096)
  (fin : Run T Q (.inLoop Xq27.b0 :: Xq27.k0) (cE0 (.clo (.func g) fs cs) n f a a.length) (cS0 D1)) : ∀ i, i ≤ a.length → ∀ D, D ++ (a.drop i).flatMap (fun p => jrow part n p.2) = D1 →
   Run T Q (.inLoop Xq27.b0 :: Xq27.k0) (cE0 (.clo (.func g) fs cs) n f a i) (cS0 D) := by
 have ha1 := ha.1
 refine up_ind (fun D hD => ?_) fun i hi ih D hD => ?_
 ·rw [List.drop_length, List.flatMap_nil, List.append_nil] at hD
  rw [hD]; exact fin
 ·rw [List.drop_eq_getElem_cons hi, List.flatMap_cons, ← List.append_assoc] at hD
  have ih' := ih _ hD
  have hlen : D.length + (jrow part n a[i].2).length ≤ 4096 := by
   have := congrArg List.length hD
   simp only [List.length_append] at this; omega
  have hm := List.getElem_mem hi
  obtain ⟨hx1, hx2⟩ := hx _ hm
  obtain ⟨gi, fi, ci, hcall, hund, hiter⟩ := hOf _ hm [.cells false [.nils], .cells false [.int .i64 0], .cells false [.ref 3 D.length 0 D.length 1], outO D, .cells false [rowA a[i].1 a[i].2], .cells false [.bool false]]
  have hys : (part a[i].2).length ≤ (jrow part n a[i].2).length := by
   unfold jrow
   split
   ·rename_i h; rw [h.1]; simp
   ·simp
  rw [run_round, run_unfold Xq27.b0.eq_1]
  simp (maxSteps := 2000000) only [go_sem, hi]
  refine hcall _ ?_
  simp (maxSteps := 2000000) only [go_sem]
  unfold RangeC
  have hof8 : (AVal.clo (.func g) fs cs).under 7 = true := AVal.names_le hof (by omega)
  have hit : (AVal.clo (.func gi) fi ci).under 6 = true := hund
  refine hiter (o := 6) (L := 7) (G := fun τ => ∃ D fd, τ = PS0 (cEnv (.clo (.func g) fs cs) n f a i (.clo (.func gi) fi ci)) a[i].1 a[i].2 D fd .ready) ?_ (by decide) (by simp only [List.length_cons, List.length_nil]; omega) (collect_its0 hx1 hx2 hof8 hit (part a[i].2) D false (hp _ hm) (by omega)) ?_
  ·rintro τ ⟨D', fd', rfl⟩
   obtain ⟨k1, k2⟩ := collect_good0 (of := .clo (.func g) fs cs) (it := .clo (.func gi) fi ci) (n := n) (f := f) (fx := a[i].1) (a := a) (i := i) (x := a[i].2) (D := D') (fd := fd') hof8 hit
   refine ⟨k1, k2, fun q ob hq => ?_⟩
   rcases q with _ | q
   ·first | exact hq | simp at hq
   ·simp at hq
  unfold RangeK
  simp (maxSteps := 2000000) only [go_sem]
  have hof4 := hof
  simp only [AVal.under, AVal.names, Bool.and_eq_true] at hof4
  by_cases hys0 : part a[i].2 = []
  ·rw [hys0]
   by_cases hn0 : 0 ≤ n
   ·have hj : jrow part n a[i].2 = [a[i].2 ++ List.replicate n.toNat zV] := by simp [jrow, hys0, hn0]
    rw [hj] at ih' hlen
    simp only [List.length_cons, List.length_nil] at hlen
    have h96 : ¬ ((D.length : Nat) : Int) = 4096 := by omega
    simp (maxSteps := 2000000) only [go_sem, run_unfold Xq27.c0.eq_1, run_unfold Xq27.c1.eq_1, run_unfold Xq27.c2.eq_1, run_unfold Xq27.c3.eq_1, Xq27.k0, hn0, h96, mkslF_row hn0 hn, Xq53_call hx1 hx2 (show (List.replicate n.toNat zV).length ≤ 1000000 by rw [List.length_replicate]; omega), List.append_nil, List.map_nil, List.isEmpty_nil]
    rw [appendV_push (nl := true) (nl' := false) rfl rfl (by simp) (by rw [sv_lst]; rfl) (by simp only [maxBytes]; omega)]
    have hap : D.map (fun r => rowA .lst r) ++ [rowA .lst (a[i].2 ++ List.replicate n.toNat zV)] = (D ++ [a[i].2 ++ List.replicate n.toNat zV]).map (fun r => rowA .lst r) := by simp
    simp (maxSteps := 2000000) only [go_sem, run_unfold Xq27.c0.eq_1, run_unfold Xq27.c1.eq_1, run_unfold Xq27.c2.eq_1, run_unfold Xq27.c3.eq_1, Xq27.k0, hof4, wrap_succ (show i < 9223372036854775807 by omega)]
    rw [hap]
    simp only [cS0, List.length_append, List.length_cons, List.length_nil, Nat.zero_add] at ih'
    exact ⟨v_names_map (fun _ => sv_pure) _, ih'⟩
   ·have hj : jrow part n a[i].2 = [] := by simp [jrow, hys0, hn0]
    rw [hj, List.append_nil] at ih'
    simp (maxSteps := 2000000) only [go_sem, run_unfold Xq27.c0.eq_1, run_unfold Xq27.c1.eq_1, run_unfold Xq27.c2.eq_1, run_unfold Xq27.c3.eq_1, Xq27.k0, hn0, List.append_nil, List.map_nil, List.isEmpty_nil, hof4, wrap_succ (show i < 9223372036854775807 by omega)]
    exact ⟨v_names_map (fun _ => sv_pure) _, ih'⟩
  ·have hj : jrow part n a[i].2 = (part a[i].2).map fun p => a[i].2 ++ p.2 := by simp [jrow, hys0]
   have he : List.isEmpty (part a[i].2) = false := by simpa using hys0
   rw [hj] at ih'
   simp (maxSteps := 2000000) only [go_sem, run_unfold Xq27.c0.eq_1, run_unfold Xq27.c1.eq_1, run_unfold Xq27.c2.eq_1, run_unfold Xq27.c3.eq_1, Xq27.k0, he, hof4, wrap_succ (show i < 9223372036854775807 by omega)]
   exact ⟨v_names_map (fun _ => sv_pure) _, ih'⟩

end Go.Abs
/- Walks of chapter 40: joins. -/
set_option linter.unusedSimpArgs false
set_option linter.unusedVariables false
set_option maxRecDepth 100000
set_option maxHeartbeats 4000000
namespace Go.Abs
open Go
attribute [local go_sem_proc] Nat.reduceLT Nat.reduceEqDiff Nat.reduceLeDiff Nat.reduceAdd Nat.reduceSub Nat.reduceMul Int.reduceLT Int.reduceLE Int.reduceEq Int.reduceNeg
attribute [local go_sem_proc ↓] reduceIte

@[go_sem] theorem allocnV_one {m : Nat} {σ : Sto} : allocnV [.nils] 0 m σ = some (.ptr σ.length 1 0, σ ++ [.cells false [.ref (σ.length + 1) 0 0 0 m], .cells true []]) := rfl
def flO (D : List (List Val)) : SlF := if D = [] then .nil else .lst
theorem deep_out {n o : Nat} {σ : Sto} {D : List (List Val)} (hσ : σ[o]? = some (outO D)) : deepA (n + 2) σ (.ref o D.length 0 D.length 1) = some (rowsA (flO D) (lstR D), σ.set o .dead) := by
 have h0 : (AVal.ref o D.length 0 D.length 1).pure = false := by simp [AVal.names]
 have hl : (D.map fun r => rowA .lst r).length = D.length := List.length_map ..
 have hp : AVal.pures (D.map fun r => rowA .lst r) = true := v_names_map (fun _ => sv_pure) D
 have hlt := (List.getElem?_eq_some_iff.1 hσ).1
 rw [deepA, h0]
 simp only [Bool.false_eq_true, if_false, hσ, hl, Nat.zero_add, Nat.mul_one, Nat.le_refl, Nat.zero_lt_one, and_self, if_true, deepL_pure hp, Bool.true_and, List.drop_zero]
 have hc := chunk_one (D.map fun r => rowA .lst r)
 rw [hl] at hc
 rw [List.take_of_length_le (by rw [hl]; exact Nat.le_refl _), hc]
 unfold flO
 cases D with
 | nil => rfl
 | cons d D =>
  rw [rowsA, sv_ne (by simp), List.map_map]
  rfl
theorem inner_out {D : List (List Val)} {c1 c2 : AObj} : innerV (.ptr 0 1 0) [.cells false [.ref 3 D.length 0 D.length 1], c1, c2, outO D] = some [.cells false [rowsA (flO D) (lstR D)], c1, c2, .dead] := by
 have hd := deep_out (n := 62) (o := 3) (σ := [.cells false [.ref 3 D.length 0 D.length 1], c1, c2, outO D]) (D := D) rfl
 unfold innerV
 simp only [List.getElem?_cons_zero, List.length_cons, List.length_nil, if_true, deepL, snapDepth, hd]
 rfl

theorem collect_fin {n : Int} {of : AVal} {f : SlF} {a : Rows} {D : List (List Val)} : Run T (Res [.cell 6 false 1, .cell 7 false 1] (.tup [rowsA (flO D) (lstR D), .int .i64 0])) (.inLoop Xq27.b0 :: Xq27.k0) (cE1 of n f a a.length) (cS1 D) := by
 rw [run_round, run_unfold Xq27.b0.eq_1]
 simp (maxSteps := 2000000) only [go_sem, run_unfold Xq27.c0.eq_1, run_unfold Xq27.c1.eq_1, run_unfold Xq27.c2.eq_1, run_unfold Xq27.c3.eq_1, Xq27.k0, Int.lt_irrefl, inner_out]
 have hr : resultsA [ARes.cell 6 false 1, ARes.cell 7 false 1] (mkE 50 [(6, AVal.ptr 0 1 0), (7, AVal.ptr 1 1 0)]) [AObj.cells false [rowsA (flO D) (lstR D)], AObj.cells false [AVal.int IntKind.i64 0], AObj.cells false [AVal.ref 3 D.length 0 D.length 1], AObj.dead] = some (.tup [rowsA (flO D) (lstR D), .int .i64 0]) := rfl
 rw [hr]
 exact snapA_step (n := 63) (by simp (maxSteps := 2000000) only [go_sem])
theorem collect_spec1 {g : FuncId} {fs cs : List AVal} {n : Int} {f : SlF} {a : Rows} {part : List Val → Rows} (ha : RowsFit a) (hn : n ≤ 1000) (hpure : (AVal.clo (.func g) fs cs).pure = true)
  (hOf : ∀ p ∈ a, OfC g fs cs (fun x => [.cells false [x]]) p.1 p.2 (part p.2)) (hx : ∀ p ∈ a, 0 < p.2.length ∧ p.2.length ≤ 1000000) (hp : ∀ p ∈ a, ∀ q ∈ part p.2, q.2.length ≤ 1000000) (h4 : (a.flatMap fun p => jrow part n p.2).length ≤ 4096)
  {lv : List Nat} {σ : Sto} {R : Post} : Cw T true i_Xq27 [rowsA f a, .clo (.func g) fs cs, .int .i64 n] lv σ R ↔ R (.tup [rowsA (flO (a.flatMap fun p => jrow part n p.2)) (lstR (a.flatMap fun p => jrow part n p.2)), .int .i64 0]) σ := by
 refine cw_intro T_Xq27 ?_ (by simp) ?_
 ·simp only [AVal.pures, AVal.namesL, hpure, Bool.and_true]; simp (maxSteps := 2000000) only [go_sem]
 rw [run_unfold Xq27.main.eq_1]
 have h := collect_loop1 (f := f) (Q := Res [.cell 6 false 1, .cell 7 false 1] (.tup [rowsA (flO (a.flatMap fun p => jrow part n p.2)) (lstR (a.flatMap fun p => jrow part n p.2)), .int .i64 0])) ha hn (AVal.names_imp (by simp) _ hpure) hOf hx hp h4 collect_fin 0 (by omega) [] (by simp)
 simp (maxSteps := 2000000) only [go_sem]
 exact h
theorem collect_spec0 {g : FuncId} {fs cs : List AVal} {n : Int} {f : SlF} {a : Rows} {part : List Val → Rows} (ha : RowsFit a) (hn : n ≤ 1000) (hpure : (AVal.clo (.func g) fs cs).pure = true)
  (hOf : ∀ p ∈ a, OfC g fs cs (fun _ => []) p.1 p.2 (part p.2)) (hx : ∀ p ∈ a, 0 < p.2.length ∧ p.2.length ≤ 1000000) (hp : ∀ p ∈ a, ∀ q ∈ part p.2, q.2.length ≤ 1000000) (h4 : (a.flatMap fun p => jrow part n p.2).length ≤ 4096)
  {lv : List Nat} {σ : Sto} {R : Post} : Cw T true i_Xq27 [rowsA f a, .clo (.func g) fs cs, .int .i64 n] lv σ R ↔ R (.tup [rowsA (flO (a.flatMap fun p => jrow part n p.2)) (lstR (a.flatMap fun p => jrow part n p.2)), .int .i64 0]) σ := by
 refine cw_intro T_Xq27 ?_ (by simp) ?_
 ·simp only [AVal.pures, AVal.namesL, hpure, Bool.and_true]; simp (maxSteps := 2000000) only [go_sem]
 rw [run_unfold Xq27.main.eq_1]
 have h := collect_loop0 (f := f) (Q := Res [.cell 6 false 1, .cell 7 false 1] (.tup [rowsA (flO (a.flatMap fun p => jrow part n p.2)) (lstR (a.flatMap fun p => jrow part n p.2)), .int .i64 0])) ha hn (AVal.names_imp (by simp) _ hpure) hOf hx hp h4 collect_fin 0 (by omega) [] (by simp)
 simp (maxSteps := 2000000) only [go_sem]
 exact h

abbrev joinL (a b : Rows) (i j n : Int) : List (List Val) := a.flatMap fun p => jrow (fun x => b.filter (partP x i j)) n p.2
def AllCol (a : Rows) (n : Int) : Prop := ∀ p ∈ a, 0 ≤ n ∧ n < p.2.length
theorem fit_all {a : Rows} {n : Int} (h0 : 0 ≤ n) (h : AllCol a n) : fitB a n = true := by
 have : a.any (shortP n) = false := by
  rw [List.any_eq_false]
  intro p hp
  have := (h p hp).2
  simp [shortP]; omega
 simp [fitB, h0, this]
structure JoinOk (a b : Rows) (i j : Int) : Prop where
 fa : RowsFit a
 fb : RowsFit b
 hi : 0 ≤ i
 hj : 0 ≤ j
 ca : AllCol a i
 cb : AllCol b j
 la : ∀ p ∈ a, p.2.length ≤ 1000000
 lb : ∀ p ∈ b, p.2.length ≤ 1000000

theorem nested_collect {f g : SlF} {a b : Rows} {i j n : Int} (h : JoinOk a b i j) (hn : n ≤ 1000) (h4 : (joinL a b i j n).length ≤ 4096) {lv : List Nat} {σ : Sto} {R : Post} :
  Cw T true i_Xq27 [rowsA f a, .clo (.func i_Xq37) [] [.fptr [rowsA g b], onF i j], .int .i64 n] lv σ R ↔ R (.tup [rowsA (flO (joinL a b i j n)) (lstR (joinL a b i j n)), .int .i64 0]) σ :=
 collect_spec1 (part := fun x => b.filter (partP x i j)) h.fa hn (by simp (maxSteps := 2000000) only [go_sem]) (fun p hp => ofLoop h.fb (h.ca p hp) h.cb) (fun p hp => ⟨by have := h.ca p hp; omega, h.la p hp⟩) (fun p _ q hq => h.lb q (List.mem_filter.1 hq).1) h4

theorem nested_call {f g : SlF} {a b : Rows} {i j n : Int} (h : JoinOk a b i j) (hn : n ≤ 1000) (h4 : (joinL a b i j n).length ≤ 4096) {Q : Post3} {k : List Item} {os : List AOper} {d : Option Nat} {e : Env} {σ : Sto} :
  CallK T Q k os d e σ true i_Xq27 [rowsA f a, .clo (.func i_Xq37) [] [.fptr [rowsA g b], onF i j], .int .i64 n] ↔ Run T Q (.ops os :: k) (put e d (.tup [rowsA (flO (joinL a b i j n)) (lstR (joinL a b i j n)), .int .i64 0])) σ := nested_collect h hn h4

abbrev onA (i j : Int) : AVal := .agg [.int .i64 i, .int .i64 j]
theorem Xq35_spec {f g : SlF} {a b : Rows} {i j : Int} (h : JoinOk a b i j) (h4 : (joinL a b i j (-1)).length ≤ 4096) {lv : List Nat} {σ : Sto} {R : Post} : Cw T true i_Xq35 [rowsA f a, rowsA g b, onA i j] lv σ R ↔ R (.tup [rowsA (flO (joinL a b i j (-1))) (lstR (joinL a b i j (-1))), .int .i64 0]) σ := by
 refine cw_intro T_Xq35 (by simp only [go_sem]) (by simp) ?_; rw [run_unfold Xq35.main.eq_1]
 simp (maxSteps := 2000000) only [go_sem, Xq58_call h.fa h.fb, fit_all h.hi h.ca, fit_all h.hj h.cb, nested_call h (show (-1 : Int) ≤ 1000 by omega) h4, Bool.true_and]
 done
@[go_sem] theorem Xq35_call {f g : SlF} {a b : Rows} {i j : Int} (h : JoinOk a b i j) (h4 : (joinL a b i j (-1)).length ≤ 4096) {Q : Post3} {k : List Item} {os : List AOper} {d : Option Nat} {e : Env} {σ : Sto} : CallK T Q k os d e σ true i_Xq35 [rowsA f a, rowsA g b, onA i j] ↔ Run T Q (.ops os :: k) (put e d (.tup [rowsA (flO (joinL a b i j (-1))) (lstR (joinL a b i j (-1))), .int .i64 0])) σ := Xq35_spec h h4

theorem Xq47_spec {f g : SlF} {a b : Rows} {i j : Int} (h : JoinOk a b i j) (h4 : (joinL a b i j (-1)).length ≤ 4096) {lv : List Nat} {σ : Sto} {R : Post} : Cw T true i_Xq47 [rowsA f a, rowsA g b, onA i j] lv σ R ↔ R (.agg [rowsA (flO (joinL a b i j (-1))) (lstR (joinL a b i j (-1))), .int .i64 0]) σ := by
 refine cw_intro T_Xq47 (by simp only [go_sem]) (by simp) ?_; rw [run_unfold Xq47.main.eq_1]
 simp (maxSteps := 2000000) only [go_sem, Xq35_call h h4]
 done
@[go_sem] theorem Xq47_call {f g : SlF} {a b : Rows} {i j : Int} (h : JoinOk a b i j) (h4 : (joinL a b i j (-1)).length ≤ 4096) {Q : Post3} {k : List Item} {os : List AOper} {d : Option Nat} {e : Env} {σ : Sto} : CallK T Q k os d e σ true i_Xq47 [rowsA f a, rowsA g b, onA i j] ↔ Run T Q (.ops os :: k) (put e d (.agg [rowsA (flO (joinL a b i j (-1))) (lstR (joinL a b i j (-1))), .int .i64 0])) σ := Xq47_spec h h4


end Go.Abs
/- Walks of chapter 40: iterators over the rows of a list. -/
set_option linter.unusedSimpArgs false
set_option linter.unusedVariables false
set_option maxRecDepth 100000
set_option maxHeartbeats 4000000
namespace Go.Abs
open Go
attribute [local go_sem_proc] Nat.reduceLT Nat.reduceEqDiff Nat.reduceLeDiff Nat.reduceAdd Nat.reduceSub Nat.reduceMul Int.reduceLT Int.reduceLE Int.reduceEq Int.reduceNeg
attribute [local go_sem_proc ↓] reduceIte

theorem Xq12_spec {f : SlF} {b : Rows} {lv : List Nat} {σ : Sto} {R : Post} : Cw T true i_Xq12 [rowsA f b] lv σ R ↔ R (.clo (.func i_Xq11) [] [.fptr [rowsA f b]]) σ := by
 refine cw_intro T_Xq12 (by simp only [go_sem]) (by simp) ?_; rw [run_unfold Xq12.main.eq_1]
 have hs := snap_clo1 (n := 61) (o := 0) (gen := 1) (nl := false) (cs := [rowsA f b]) (g := .func i_Xq11) (σ := [.cells false [rowsA f b]]) rfl rfl (by simp (maxSteps := 2000000) only [go_sem])
 simp (maxSteps := 2000000) only [go_sem, hs]
 done
@[go_sem] theorem Xq12_call {f : SlF} {b : Rows} {Q : Post3} {k : List Item} {os : List AOper} {d : Option Nat} {e : Env} {σ : Sto} : CallK T Q k os d e σ true i_Xq12 [rowsA f b] ↔ Run T Q (.ops os :: k) (put e d (.clo (.func i_Xq11) [] [.fptr [rowsA f b]])) σ := Xq12_spec


theorem values_loop {g : SlF} {b : Rows} {o L : Nat} {G : Sto → Prop} (hG : ∀ τ, G τ → τ.length = L ∧ τ.all (AObj.under L) = true) (ho : o < L) (hb : RowsFit b) {R : Post} {τ : Sto} (hR : R (.tup []) τ) : ∀ k, k ≤ b.length → ∀ σ, Its G o ((b.drop k).map fun p => rowA p.1 p.2) σ τ →
  Run T (Ret [] R) (.inLoop Xq11.b0 :: Xq11.k0) (mkE 16 [(0, .yld o), (1, .fptr [rowsA g b]), (5, rowsA g b), (6, .int .i64 b.length), (7, .int .i64 k)]) σ := by
 have hb1 := hb.1
 refine up_ind (fun σ h => ?_) fun k hk ih σ h => ?_
 ·rw [List.drop_length, List.map_nil] at h
  cases h
  rw [run_round, run_unfold Xq11.b0.eq_1]
  simp (maxSteps := 2000000) only [go_sem, run_unfold Xq11.c0.eq_1, Xq11.k0]
  exact hR
 ·rw [run_round, run_unfold Xq11.b0.eq_1]
  obtain ⟨g1, g2⟩ := hG _ h.good
  rw [List.drop_eq_getElem_cons hk, List.map_cons] at h
  simp (maxSteps := 2000000) only [go_sem, hk]
  cases h with
  | more q1 q2 q3 =>
   refine q2.call ?_
   obtain ⟨p1, p2⟩ := hG _ q3.good
   simp (maxSteps := 2000000) only [go_sem]
   rw [g1, List.take_of_length_le (by omega), if_pos ho, wrap_succ (by omega)]
   exact ⟨p2, ih _ q3⟩
  | stop q1 q2 =>
   refine q2.call ?_
   simp (maxSteps := 2000000) only [go_sem]
   exact hR
theorem values_iter {g : SlF} {b : Rows} {o L : Nat} {G : Sto → Prop} (hG : ∀ τ, G τ → τ.length = L ∧ τ.all (AObj.under L) = true) (ho : o < L) (hb : RowsFit b) {R : Post} {σ τ : Sto} (h : Its G o (b.map fun p => rowA p.1 p.2) σ τ) (hR : R (.tup []) τ) :
  Cw T false i_Xq11 [.yld o, .fptr [rowsA g b]] [] σ R := by
 rw [cw_enter T_Xq11 (by simp), run_unfold Xq11.main.eq_1]
 simp (maxSteps := 2000000) only [go_sem]
 exact values_loop hG ho hb hR 0 (by omega) σ (by simpa using h)

abbrev shV : Shape := .row [(0, 1, false, .int .i64), (1, 1, false, .int .i64), (2, 1, false, .str)]
theorem eqA_val {a b : Val} : eqA shV (vA a) (vA b) = some (decide (a = b)) := by
 rw [eqA, eqParts]
 simp only [eqA, eqParts, ba_beq, List.getElem?_cons_zero, List.getElem?_cons_succ, Bool.false_eq_true, if_false]
 have : decide (a = b) = (decide (a.k = b.k) && (decide (a.i = b.i) && decide (a.s = b.s))) := by cases a; cases b; simp
 rw [this]
 cases h1 : decide (a.k = b.k) <;> cases h2 : decide (a.i = b.i) <;> cases h3 : decide (a.s = b.s) <;> simp_all
abbrev Grp := List (Val × Rows)
abbrev keysG (G : Grp) : List AVal := G.map fun g => vA g.1
abbrev valsG (G : Grp) : List AVal := G.map fun g => rowsA .lst g.2
def ixG (G : Grp) (v : Val) : Option Nat := G.findIdx? fun g => decide (v = g.1)
theorem findA_keys (G : Grp) (v : Val) : ∀ i, findA shV (vA v) (keysG G) i = some ((ixG G v).map (· + i)) := by
 unfold ixG
 induction G with
 | nil => intro i; rfl
 | cons p m ih =>
  intro i
  simp only [List.map_cons, findA, eqA_val, List.findIdx?_cons]
  by_cases h : v = p.1
  ·simp [h]
  ·simp only [h, decide_false, ih]
   cases m.findIdx? fun p => decide (v = p.1) with
   | none => rfl
   | some j => simp; omega
def gotG (G : Grp) (v : Val) : SlF × Rows := match ixG G v with
 | some j => (.lst, (G.getD j (zV, [])).2)
 | none => (.nil, [])
theorem ixG_lt {G : Grp} {v : Val} {j : Nat} (h : ixG G v = some j) : ∃ hj : j < G.length, G[j].1 = v := by
 obtain ⟨hj, hp, _⟩ := List.findIdx?_eq_some_iff_getElem.1 h
 exact ⟨hj, by simpa using (of_decide_eq_true hp).symm⟩
abbrev fmapG (G : Grp) : AVal := .fmap (keysG G) (valsG G)
theorem lookup_fmap {G : Grp} {v : Val} {σ : Sto} : lookupV shV .nils false (fmapG G) (vA v) σ = some (rowsA (gotG G v).1 (gotG G v).2, σ) := by
 show lookAV shV .nils false (vA v) (keysG G) (valsG G) σ = _
 unfold lookAV gotG
 rw [eqA_val, if_pos (by simp), findA_keys]
 cases h : ixG G v with
 | none => rfl
 | some j =>
  obtain ⟨hj, _⟩ := ixG_lt h
  simp [hj, List.getD_eq_getElem?_getD]

theorem table1_call {fx : SlF} {x : List Val} {G : Grp} {i j : Int} {σ : Sto} {R : Post} (hi : 0 ≤ i ∧ i < x.length) (hr : RowsFit (gotG G (colN x i)).2) : Cw T false i_Xq30 [rowA fx x, .fptr [fmapG G], onF i j] [] σ R ↔
  R (.clo (.func i_Xq11) [] [.fptr [rowsA (gotG G (colN x i)).1 (gotG G (colN x i)).2]]) σ := by
 have a1 := fun {σ : Sto} => @iaddrV_int' 3 fx Val (fun v => .agg [.int .i64 v.k, .int .i64 v.i, .str v.s]) x .i64 i σ hi
 simp only [colN_get hi] at a1
 have hl := @lookup_fmap G (colN x i)
 rw [cw_enter T_Xq30 (by simp), run_unfold Xq30.main.eq_1]
 simp (maxSteps := 2000000) only [go_sem, a1, hl]
 done

theorem ofTable {fx : SlF} {x : List Val} {G : Grp} {i j : Int} (hi : 0 ≤ i ∧ i < x.length) (hr : RowsFit (gotG G (colN x i)).2) : OfC i_Xq30 [] [.fptr [fmapG G], onF i j] (fun _ => []) fx x (gotG G (colN x i)).2 := by
 intro σ
 refine ⟨i_Xq11, [], [.fptr [rowsA (gotG G (colN x i)).1 (gotG G (colN x i)).2]], fun R hR => (table1_call hi hr).2 (by simpa using hR), by simp (maxSteps := 2000000) only [go_sem], fun {o L G'} hG ho hL {τ0 τ} h {R} hR => ?_⟩
 exact values_iter (L := L) (G := G') (fun τ hτ => ⟨(hG τ hτ).1, (hG τ hτ).2.1⟩) ho hr h hR

def addG (G : Grp) (v : Val) (p : SlF × List Val) : Grp := match ixG G v with
 | some k => G.modify k fun g => (g.1, g.2 ++ [p])
 | none => G ++ [(v, [p])]
def grp (b : Rows) (j : Int) (G : Grp) : Grp := b.foldl (fun G p => if (colN p.2 j).k = 0 then G else addG G (colN p.2 j) p) G
theorem ixG_modify {G : Grp} {w : Val} {k : Nat} {f : Val × Rows → Val × Rows} (hf : ∀ g, (f g).1 = g.1) : ixG (G.modify k f) w = ixG G w := by
 unfold ixG
 induction G generalizing k with
 | nil => simp
 | cons g G ih =>
  cases k with
  | zero => simp [List.findIdx?_cons, hf]
  | succ k => simp [List.findIdx?_cons, ih]
theorem ixG_append {G : Grp} {w v : Val} {r : Rows} : ixG (G ++ [(v, r)]) w = match ixG G w with
  | some k => some k
  | none => if w = v then some G.length else none := by
 unfold ixG
 rw [List.findIdx?_append]
 cases h : G.findIdx? (fun g => decide (w = g.1)) with
 | some k => simp
 | none =>
  by_cases h1 : w = v
  ·simp [h1, List.findIdx?_cons]
  ·simp [h1, List.findIdx?_cons]
theorem got_add {G : Grp} {v w : Val} {p : SlF × List Val} : (gotG (addG G v p) w).2 = if w = v then (gotG G w).2 ++ [p] else (gotG G w).2 := by
 unfold addG
 cases hv : ixG G v with
 | some k =>
  obtain ⟨hk, hkv⟩ := ixG_lt hv
  simp only [gotG, ixG_modify (f := fun g : Val × Rows => (g.1, g.2 ++ [p])) (fun _ => rfl)]
  by_cases h : w = v
  ·subst h
   rw [hv, if_pos rfl]
   simp [List.getD_eq_getElem?_getD, hk]
  ·rw [if_neg h]
   cases hw : ixG G w with
   | none => rfl
   | some q =>
    obtain ⟨hq, hqw⟩ := ixG_lt hw
    have hne : k ≠ q := fun e => by subst e; exact h (hqw.symm.trans hkv)
    simp [List.getD_eq_getElem?_getD, hq, List.getElem_modify, hne]
 | none =>
  simp only [gotG, ixG_append]
  by_cases h : w = v
  ·subst h
   rw [hv]
   simp [List.getD_eq_getElem?_getD]
  ·cases hw : ixG G w with
   | none => simp [h]
   | some q =>
    obtain ⟨hq, _⟩ := ixG_lt hw
    simp [h, List.getD_eq_getElem?_getD, hq, List.getElem?_append_left hq]
theorem got_grp {j : Int} {w : Val} : ∀ (b : Rows) (G : Grp), (gotG (grp b j G) w).2 = (gotG G w).2 ++ b.filter fun p => !decide ((colN p.2 j).k = 0) && decide (w = colN p.2 j)
 | [], G => by simp [grp]
 | p :: b, G => by
  have ih := got_grp (j := j) (w := w) b
  unfold grp at ih ⊢
  rw [List.foldl_cons, ih]
  by_cases h : (colN p.2 j).k = 0
  ·rw [if_pos h, List.filter_cons_of_neg (by simp [h])]
  ·rw [if_neg h, got_add]
   by_cases h2 : w = colN p.2 j
   ·rw [if_pos h2, List.filter_cons_of_pos (by simp [h, h2]), List.append_assoc]; rfl
   ·rw [if_neg h2, List.filter_cons_of_neg (by simp [h2])]
theorem got_part {b : Rows} {x : List Val} {i j : Int} : (gotG (grp b j []) (colN x i)).2 = b.filter (partP x i j) := by
 rw [got_grp]
 have : (gotG [] (colN x i)).2 = [] := rfl
 rw [this, List.nil_append]
 congr 1
 funext p
 unfold partP
 by_cases h : colN x i = colN p.2 j
 ·rw [h]
 ·simp [h]
end Go.Abs
/- Walks of chapter 40: a hash table is made. -/
set_option linter.unusedSimpArgs false
set_option linter.unusedVariables false
set_option maxRecDepth 100000
set_option maxHeartbeats 4000000
namespace Go.Abs
open Go
attribute [local go_sem_proc] Nat.reduceLT Nat.reduceEqDiff Nat.reduceLeDiff Nat.reduceAdd Nat.reduceSub Nat.reduceMul Int.reduceLT Int.reduceLE Int.reduceEq Int.reduceNeg
attribute [local go_sem_proc ↓] reduceIte

abbrev LG := List (Val × Nat × Rows)
abbrev toG (L : LG) : Grp := L.map fun g => (g.1, g.2.2)
abbrev valL (g : Val × Nat × Rows) : AVal := .ref g.2.1 g.2.2.length 0 g.2.2.length 1
abbrev vO (v : Val) : AObj := .cells false [.int .i64 v.k, .int .i64 v.i, .str v.s]
abbrev rO (p : SlF × List Val) : AObj := .cells false [rowA p.1 p.2]
abbrev rsO (l : Rows) : AObj := .cells false (l.map fun p => rowA p.1 p.2)
abbrev tS (i j : Int) (L : LG) (τ : Sto) : Sto := .cells false [.int .i64 i, .int .i64 j] :: .map (keysG (toG L)) (L.map valL) :: .cells false [.map 1] :: τ
structure TOk (L : LG) (τ : Sto) : Prop where
 at' : ∀ g ∈ L, ∃ q, g.2.1 = q + 3 ∧ τ[q]? = some (rsO g.2.2)
 nd : (L.map fun g => g.2.1).Nodup
theorem TOk.more {L : LG} {τ : Sto} (h : TOk L τ) (ν : Sto) : TOk L (τ ++ ν) :=
 ⟨fun g hg => let ⟨q, h1, h2⟩ := h.at' g hg; ⟨q, h1, by rw [List.getElem?_append_left (List.getElem?_eq_some_iff.1 h2).1]; exact h2⟩, h.nd⟩

theorem sameA_val (v : Val) : sameA (vA v) (vA v) = true := by
 simp [sameA, sameL, sameS, ba_beq]
theorem ixG_len {L : LG} {v : Val} {q : Nat} (h : ixG (toG L) v = some q) : ∃ hq : q < L.length, L[q].1 = v := by
 obtain ⟨h1, h2⟩ := ixG_lt h
 have h3 : q < L.length := by simpa using h1
 exact ⟨h3, by simpa using h2⟩
theorem mapentV_yes {i j : Int} {L : LG} {τ : Sto} {v : Val} {q : Nat} (hq : ixG (toG L) v = some q) : mapentV shV .nils (.map 1) (vA v) (tS i j L τ) = some (.tup [valL (L.getD q (zV, 0, [])), .int .i64 q], tS i j L τ) := by
 obtain ⟨hlt, hk⟩ := ixG_len hq
 have h1 : (keysG (toG L)).getD q .und = vA v := by simp [List.getD_eq_getElem?_getD, hlt, hk]
 have h2 : (L.map valL)[q]? = some (valL (L.getD q (zV, 0, []))) := by simp [List.getD_eq_getElem?_getD, hlt]
 simp only [mapentV, tS, List.getElem?_cons_succ, List.getElem?_cons_zero, eqA_val, decide_true, if_true, findA_keys, hq, Option.map_some, Nat.add_zero, h1, sameA_val, h2]
theorem mapentV_no {i j : Int} {L : LG} {τ : Sto} {v : Val} (hq : ixG (toG L) v = none) : mapentV shV .nils (.map 1) (vA v) (tS i j L τ) = some (.tup [.nils, .int .i64 L.length],
  .cells false [.int .i64 i, .int .i64 j] :: .map (keysG (toG L) ++ [vA v]) (L.map valL ++ [.nils]) :: .cells false [.map 1] :: τ) := by
 have h1 : (keysG (toG L)).length = L.length := by simp
 simp only [mapentV, tS, List.getElem?_cons_succ, List.getElem?_cons_zero, eqA_val, decide_true, if_true, findA_keys, hq, Option.map_none, h1, List.set_cons_succ, List.set_cons_zero]
theorem appendV_first {σ : Sto} {o : Nat} {v : AVal} (hσ : σ[o]? = some (.cells false [v])) (h1 : v.one = true) : appendV 1 24 .nils (.ref o 1 0 1 1) σ = some (.ref σ.length 1 0 1 1, σ ++ [.cells false [v]]) := by
 simp [appendV, rowOf, hσ, h1, maxBytes]

theorem sv_one' {k : Nat} {f : SlF} {xs : List AVal} : (sv k f xs).one = true := by
 cases f <;> first | rfl | (simp only [sv]; split <;> rfl)
theorem entst_new {A C : AObj} {ks : List AVal} {L : LG} {x : AVal} {τ : Sto} : entstV (.map 1) (.int .i64 (L.length : Int)) x (A :: .map ks (L.map valL ++ [.nils]) :: C :: τ) = some (.und, A :: .map ks (L.map valL ++ [x]) :: C :: τ) := by
 have h1 : (0 : Int) ≤ (L.length : Int) ∧ (L.length : Int).toNat < (L.map valL ++ [AVal.nils]).length := by simp
 have h2 : (L.map valL ++ [AVal.nils]).set (L.length : Int).toNat x = L.map valL ++ [x] := by
  rw [Int.toNat_natCast, List.set_append_right _ _ (by simp)]; simp
 simp only [entstV, List.getElem?_cons_succ, List.getElem?_cons_zero, if_pos h1, h2, List.set_cons_succ, List.set_cons_zero]
theorem entst_upd {A C : AObj} {ks vs : List AVal} {q : Nat} {x : AVal} {τ : Sto} (hq : q < vs.length) : entstV (.map 1) (.int .i64 (q : Int)) x (A :: .map ks vs :: C :: τ) = some (.und, A :: .map ks (vs.set q x) :: C :: τ) := by
 have h1 : (0 : Int) ≤ (q : Int) ∧ (q : Int).toNat < vs.length := by simp [hq]
 simp only [entstV, List.getElem?_cons_succ, List.getElem?_cons_zero, if_pos h1, List.set_cons_succ, List.set_cons_zero]
 rfl
theorem TOk.new {L : LG} {τ : Sto} (h : TOk L τ) {v : Val} {p : SlF × List Val} {x3 xr : AObj} : TOk (L ++ [(v, (τ ++ [x3, xr]).length + 3, [p])]) (τ ++ [x3, xr] ++ [rsO [p]]) := by
 have hm := h.more [x3, xr]
 refine ⟨fun g hg => ?_, ?_⟩
 ·rcases List.mem_append.1 hg with hg | hg
  ·exact (hm.more [rsO [p]]).at' g hg
  ·simp only [List.mem_singleton] at hg
   subst hg
   exact ⟨_, rfl, by simp⟩
 ·rw [List.map_append, List.nodup_append]
  refine ⟨h.nd, by simp, fun a ha c hc => ?_⟩
  simp only [List.map_cons, List.map_nil, List.mem_singleton] at hc
  subst hc
  obtain ⟨g, hg, rfl⟩ := List.mem_map.1 ha
  obtain ⟨q, h1, h2⟩ := h.at' g hg
  have := (List.getElem?_eq_some_iff.1 h2).1
  simp only [List.length_append, List.length_cons, List.length_nil]
  omega
theorem TOk.upd {L : LG} {τ : Sto} (h : TOk L τ) {q q' : Nat} {p : SlF × List Val} (hq : q < L.length) (ho : L[q].2.1 = q' + 3) : TOk (L.set q (L[q].1, L[q].2.1, L[q].2.2 ++ [p])) (τ.set q' (rsO (L[q].2.2 ++ [p]))) := by
 refine ⟨fun g hg => ?_, ?_⟩
 ·obtain ⟨k, hk, rfl⟩ := List.mem_iff_getElem.1 hg
  rw [List.length_set] at hk
  rw [List.getElem_set]
  split
  ·rename_i e
   subst e
   obtain ⟨q2, h1, h2⟩ := h.at' _ (List.getElem_mem hq)
   have : q2 = q' := by omega
   subst this
   exact ⟨q2, h1, by rw [List.getElem?_set_self (List.getElem?_eq_some_iff.1 h2).1]⟩
  ·rename_i e
   obtain ⟨q2, h1, h2⟩ := h.at' _ (List.getElem_mem hk)
   refine ⟨q2, h1, ?_⟩
   rw [List.getElem?_set_ne]
   ·exact h2
   ·rintro rfl
    have hp := List.pairwise_iff_getElem.1 h.nd
    rcases Nat.lt_or_gt_of_ne e with hl | hl
    ·exact hp q k (by simpa using hq) (by simpa using hk) hl (by simp [ho, h1])
    ·exact hp k q (by simpa using hk) (by simpa using hq) hl (by simp [ho, h1])
 ·have : (L.set q (L[q].1, L[q].2.1, L[q].2.2 ++ [p])).map (fun g => g.2.1) = L.map fun g => g.2.1 := by
   apply List.ext_getElem?
   intro k
   simp only [List.getElem?_map, List.getElem?_set]
   split
   ·rename_i e; subst e; simp [hq]
   ·rfl
  rw [this]; exact h.nd

theorem snap_val {n o : Nat} {σ : Sto} {l : Rows} (hσ : σ[o]? = some (rsO l)) : snapA σ (n + 2) (.ref o l.length 0 l.length 1) = some (rowsA .lst l) := by
 rw [snapA_refN hσ (by simp) (by simp) (by decide) (v_names_map (fun _ => sv_pure) l)]
 have := chunk_one (l.map fun p => rowA p.1 p.2)
 rw [List.length_map] at this
 rw [this, rowsA, sv_lst]
theorem mapM_vals {n : Nat} {σ : Sto} : ∀ {L : LG}, (∀ g ∈ L, σ[g.2.1]? = some (rsO g.2.2)) → (L.map valL).mapM (snapA σ (n + 2)) = some (valsG (toG L))
 | [], _ => rfl
 | g :: L, h => by
  have h1 := mapM_vals (n := n) fun g' hg' => h g' (List.mem_cons_of_mem _ hg')
  have h2 := snap_val (n := n) (h g List.mem_cons_self)
  simp only [List.map_cons, List.mapM_cons, h2, h1, Option.pure_def, Option.bind_eq_bind, Option.bind_some]
theorem snap_table {i j : Int} {L : LG} {τ : Sto} (h : TOk L τ) : snapA (tS i j L τ) 64 (.clo (.func i_Xq30) [] [.ptr 2 1 0, .ptr 0 2 0]) = some (.clo (.func i_Xq30) [] [.fptr [fmapG (toG L)], onF i j]) := by
 have hk : (keysG (toG L)).mapM (snapA (tS i j L τ) 61) = some (keysG (toG L)) := mapM_snapN (n := 60) (v_names_map (fun _ => by simp (maxSteps := 2000000) only [go_sem]) _)
 have hv : (L.map valL).mapM (snapA (tS i j L τ) 61) = some (valsG (toG L)) := mapM_vals (n := 59) fun g hg => by
  obtain ⟨q, h1, h2⟩ := h.at' g hg
  rw [h1]; exact h2
 have h1 : snapA (tS i j L τ) 62 (.map 1) = some (fmapG (toG L)) := by
  rw [snapA, show (AVal.map 1).pure = false from rfl]
  simp only [Bool.false_eq_true, if_false, tS, List.getElem?_cons_succ, List.getElem?_cons_zero] at hk hv ⊢
  rw [hk, hv]
 have h2 : snapA (tS i j L τ) 63 (.ptr 2 1 0) = some (.fptr [fmapG (toG L)]) := by
  rw [snapA, show (AVal.ptr 2 1 0).pure = false from rfl]
  simp only [Bool.false_eq_true, if_false, show (tS i j L τ)[2]? = some (.cells false [.map 1]) from rfl, List.length_cons, List.length_nil, if_true, List.drop_zero, List.mapM_cons, List.mapM_nil, h1, Option.pure_def, Option.bind_eq_bind, Option.bind_some, Option.map_some]
 have h3 : snapA (tS i j L τ) 63 (.ptr 0 2 0) = some (onF i j) := snapA_ptrN (n := 61) (cs := [.int .i64 i, .int .i64 j]) rfl rfl (by simp (maxSteps := 2000000) only [go_sem])
 rw [snapA, show (AVal.clo (.func i_Xq30) [] [.ptr 2 1 0, .ptr 0 2 0]).pure = false from rfl]
 simp only [Bool.false_eq_true, if_false, List.mapM_cons, List.mapM_nil, h2, h3, Option.pure_def, Option.bind_eq_bind, Option.bind_some]

theorem set_self {α : Type _} {l : List α} {q : Nat} {a : α} (h : l[q]? = some a) : l.set q a = l := by
 apply List.ext_getElem?
 intro k
 rw [List.getElem?_set]
 split
 ·rename_i e
  subst e
  rw [if_pos (List.getElem?_eq_some_iff.1 h).1, h]
 ·rfl
theorem modify_set {α : Type _} {l : List α} {q : Nat} {f : α → α} (h : q < l.length) : l.modify q f = l.set q (f l[q]) := by
 apply List.ext_getElem?
 intro k
 rw [List.getElem?_set, List.getElem?_modify]
 split
 ·rename_i e
  subst e
  simp [h]
 ·simp
theorem grp_cons {p : SlF × List Val} {b : Rows} {j : Int} {G : Grp} : grp (p :: b) j G = grp b j (if (colN p.2 j).k = 0 then G else addG G (colN p.2 j) p) := rfl

theorem table_loop {f : SlF} {b : Rows} {i j : Int} (hb : RowsFit b) (hj : ∀ p ∈ b, 0 ≤ j ∧ j < p.2.length) : ∀ k, k ≤ b.length → ∀ L τ, TOk L τ → (∀ g ∈ L, g.2.2.length ≤ k) →
  Run T (Res [.tmp 4] (.clo (.func i_Xq30) [] [.fptr [fmapG (grp (b.drop k) j (toG L))], onF i j])) (.inLoop Xq48.b0 :: Xq48.k0) (mkE 34 [(3, .ptr 0 2 0), (5, .ptr 2 1 0), (10, rowsA f b), (11, .int .i64 b.length), (12, .int .i64 k)]) (tS i j L τ) := by
 have hb1 := hb.1
 refine up_ind (fun L τ h hl => ?_) fun k hk ih L τ h hl => ?_
 ·rw [run_round, run_unfold Xq48.b0.eq_1]
  simp (maxSteps := 2000000) only [go_sem, run_unfold Xq48.c0.eq_1, run_unfold Xq48.c1.eq_1, run_unfold Xq48.c2.eq_1, Xq48.k0, List.drop_length, Int.lt_irrefl]
  exact snap_table h
 ·rw [run_round, run_unfold Xq48.b0.eq_1]
  rw [List.drop_eq_getElem_cons hk]
  have hjk := hj _ (List.getElem_mem hk)
  have a2 := fun {σ : Sto} => @iaddrV_int' 3 b[k].1 Val (fun v => .agg [.int .i64 v.k, .int .i64 v.i, .str v.s]) b[k].2 .i64 j σ hjk
  simp only [colN_get hjk] at a2
  have w1 := wrap_succ (show k < 9223372036854775807 by omega)
  have ihm := fun ν L' hL' hl' => ih L' (τ ++ ν) hL' hl'
  simp only [tS] at ihm
  by_cases h0 : (colN b[k].2 j).k = 0
  ·have hg : grp (b[k] :: b.drop (k + 1)) j (toG L) = grp (b.drop (k + 1)) j (toG L) := by rw [grp_cons, if_pos h0]
   rw [hg]
   simp (maxSteps := 2000000) only [go_sem, hk, a2, h0, tS, get_last, set_last, run_unfold Xq48.c0.eq_1, run_unfold Xq48.c1.eq_1, run_unfold Xq48.c2.eq_1, Xq48.k0, w1]
   exact ihm _ L (h.more _) (fun g hg => by have := hl g hg; omega)
  ·cases hq : ixG (toG L) (colN b[k].2 j) with
   | none =>
    have hg : grp (b[k] :: b.drop (k + 1)) j (toG L) = grp (b.drop (k + 1)) j (toG L ++ [(colN b[k].2 j, [b[k]])]) := by rw [grp_cons, if_neg h0]; simp only [addG, hq]
    rw [hg]
    have hm := fun ν => @mapentV_no i j L (τ ++ ν) (colN b[k].2 j) hq
    simp only [tS] at hm
    simp (maxSteps := 2000000) only [go_sem, hk, a2, h0, tS, get_last, set_last, List.append_assoc, List.singleton_append, hm]
    rw [appendV_first (v := rowA b[k].1 b[k].2) (by simp) sv_one']
    simp (maxSteps := 2000000) only [go_sem, entst_new, run_unfold Xq48.c0.eq_1, run_unfold Xq48.c1.eq_1, run_unfold Xq48.c2.eq_1, Xq48.k0, w1]
    have hx := ih (L ++ [(colN b[k].2 j, (τ ++ [vO (colN b[k].2 j), rO b[k]]).length + 3, [b[k]])]) _ (h.new (x3 := vO (colN b[k].2 j)) (xr := rO b[k])) (fun g hg => by
     rcases List.mem_append.1 hg with hg | hg
     ·have := hl g hg; omega
     ·simp only [List.mem_singleton] at hg; subst hg; simp)
    simp only [tS, toG, List.map_append, List.map_cons, List.map_nil, List.append_assoc, List.cons_append, List.nil_append] at hx ⊢
    exact hx
   | some q =>
    have hm := fun ν => @mapentV_yes i j L (τ ++ ν) (colN b[k].2 j) q hq
    simp only [tS] at hm
    simp (maxSteps := 2000000) only [go_sem, hk, a2, h0, tS, get_last, set_last, List.append_assoc, List.singleton_append, hm]
    obtain ⟨hlt, hkey⟩ := ixG_len hq
    obtain ⟨q', h1, h2⟩ := h.at' _ (List.getElem_mem hlt)
    have hlq := hl _ (List.getElem_mem hlt)
    have e1 : L.getD q (zV, 0, []) = L[q] := by simp [List.getD_eq_getElem?_getD, hlt]
    rw [e1]
    have hq' := (List.getElem?_eq_some_iff.1 h2).1
    rw [valL, h1, appendV_push (nl := false) (cs := L[q].2.2.map fun p => rowA p.1 p.2) (nl' := false) (v := rowA b[k].1 b[k].2) (by rw [List.getElem?_cons_succ, List.getElem?_cons_succ, List.getElem?_cons_succ, List.getElem?_append_left hq', h2]) (by simp) (by simp) sv_one' (by simp only [maxBytes]; omega)]
    have eu := fun {A C : AObj} {ks : List AVal} {x : AVal} {τ : Sto} => @entst_upd A C ks (L.map valL) q x τ (by simpa using hlt)
    simp (maxSteps := 2000000) only [go_sem, eu, run_unfold Xq48.c0.eq_1, run_unfold Xq48.c1.eq_1, run_unfold Xq48.c2.eq_1, Xq48.k0, w1]
    have hx := ih (L.set q (L[q].1, L[q].2.1, L[q].2.2 ++ [b[k]])) _ ((h.more [vO (colN b[k].2 j), rO b[k]]).upd hlt h1) (fun g hg => by
     rcases List.mem_or_eq_of_mem_set hg with hg | rfl
     ·have := hl g hg; omega
     ·simp only [List.length_append, List.length_cons, List.length_nil]; omega)
    have e2 : keysG (toG (L.set q (L[q].1, L[q].2.1, L[q].2.2 ++ [b[k]]))) = keysG (toG L) := by
     simp only [List.map_set, List.map_map]
     exact set_self (by simp [hlt])
    have e3 : (L.set q (L[q].1, L[q].2.1, L[q].2.2 ++ [b[k]])).map valL = (L.map valL).set q (.ref (q' + 3) (L[q].2.2.length + 1) 0 (L[q].2.2.length + 1) 1) := by
     rw [List.map_set, valL, h1]; simp only [List.length_append, List.length_cons, List.length_nil, Nat.zero_add]
    have e4 : grp (b[k] :: b.drop (k + 1)) j (toG L) = grp (b.drop (k + 1)) j (toG (L.set q (L[q].1, L[q].2.1, L[q].2.2 ++ [b[k]]))) := by
     rw [grp_cons, if_neg h0]
     simp only [addG, hq]
     congr 1
     rw [modify_set (by simpa using hlt)]
     simp only [toG, List.map_set, List.getElem_map]
    rw [e4]
    simp only [tS, e2, e3, rsO, List.map_append, List.map_cons, List.map_nil] at hx ⊢
    exact hx
theorem Xq48_spec {f : SlF} {b : Rows} {i j : Int} (hb : RowsFit b) (hj : ∀ p ∈ b, 0 ≤ j ∧ j < p.2.length) {lv : List Nat} {σ : Sto} {R : Post} : Cw T true i_Xq48 [rowsA f b, .agg [.int .i64 i, .int .i64 j]] lv σ R ↔ R (.clo (.func i_Xq30) [] [.fptr [fmapG (grp b j [])], onF i j]) σ := by
 refine cw_intro T_Xq48 (by simp only [go_sem]) (by simp) ?_; rw [run_unfold Xq48.main.eq_1]
 have := table_loop (f := f) (i := i) hb hj 0 (by omega) [] [] ⟨fun g hg => by simp at hg, by simp⟩ (by simp)
 simp only [List.drop_zero, tS, toG, List.map_nil] at this
 simp (maxSteps := 2000000) only [go_sem]
 exact this
@[go_sem] theorem Xq48_call {f : SlF} {b : Rows} {i j : Int} (hb : RowsFit b) (hj : ∀ p ∈ b, 0 ≤ j ∧ j < p.2.length) {Q : Post3} {k : List Item} {os : List AOper} {d : Option Nat} {e : Env} {σ : Sto} : CallK T Q k os d e σ true i_Xq48 [rowsA f b, .agg [.int .i64 i, .int .i64 j]] ↔ Run T Q (.ops os :: k) (put e d (.clo (.func i_Xq30) [] [.fptr [fmapG (grp b j [])], onF i j])) σ := Xq48_spec hb hj

end Go.Abs
/- Walks of chapter 40: joins by a hash table; rows with and without partners. -/
set_option linter.unusedSimpArgs false
set_option linter.unusedVariables false
set_option maxRecDepth 100000
set_option maxHeartbeats 4000000
namespace Go.Abs
open Go
attribute [local go_sem_proc] Nat.reduceLT Nat.reduceEqDiff Nat.reduceLeDiff Nat.reduceAdd Nat.reduceSub Nat.reduceMul Int.reduceLT Int.reduceLE Int.reduceEq Int.reduceNeg
attribute [local go_sem_proc ↓] reduceIte

theorem RowsFit.filter {b : Rows} (h : RowsFit b) (p : SlF × List Val → Bool) : RowsFit (b.filter p) :=
 ⟨Nat.le_trans (List.length_filter_le ..) h.1, fun q hq => h.2 q (List.mem_filter.1 hq).1⟩
abbrev tblC (b : Rows) (i j : Int) : AVal := .clo (.func i_Xq30) [] [.fptr [fmapG (grp b j [])], onF i j]
theorem tblC_pure {b : Rows} {i j : Int} : (tblC b i j).pure = true := by
 have h1 : AVal.pures (keysG (grp b j [])) = true := v_names_map (fun _ => by simp (maxSteps := 2000000) only [go_sem]) _
 have h2 : AVal.pures (valsG (grp b j [])) = true := v_names_map (fun _ => sv_pure) _
 simp (maxSteps := 2000000) only [go_sem, h1, h2]
 done
theorem ofTbl {b : Rows} {i j : Int} (hb : RowsFit b) {fx : SlF} {x : List Val} (hi : 0 ≤ i ∧ i < x.length) : OfC i_Xq30 [] [.fptr [fmapG (grp b j [])], onF i j] (fun _ => []) fx x (b.filter (partP x i j)) := by
 have := ofTable (fx := fx) (x := x) (G := grp b j []) (i := i) (j := j) hi (by rw [got_part]; exact hb.filter _)
 rwa [got_part] at this
theorem hash_collect {f : SlF} {a b : Rows} {i j n : Int} (h : JoinOk a b i j) (hn : n ≤ 1000) (h4 : (joinL a b i j n).length ≤ 4096) {lv : List Nat} {σ : Sto} {R : Post} :
  Cw T true i_Xq27 [rowsA f a, tblC b i j, .int .i64 n] lv σ R ↔ R (.tup [rowsA (flO (joinL a b i j n)) (lstR (joinL a b i j n)), .int .i64 0]) σ :=
 collect_spec0 (part := fun x => b.filter (partP x i j)) h.fa hn tblC_pure (fun p hp => ofTbl h.fb (h.ca p hp)) (fun p hp => ⟨by have := h.ca p hp; omega, h.la p hp⟩) (fun p _ q hq => h.lb q (List.mem_filter.1 hq).1) h4
theorem hash_call {f : SlF} {a b : Rows} {i j n : Int} (h : JoinOk a b i j) (hn : n ≤ 1000) (h4 : (joinL a b i j n).length ≤ 4096) {Q : Post3} {k : List Item} {os : List AOper} {d : Option Nat} {e : Env} {σ : Sto} :
  CallK T Q k os d e σ true i_Xq27 [rowsA f a, tblC b i j, .int .i64 n] ↔ Run T Q (.ops os :: k) (put e d (.tup [rowsA (flO (joinL a b i j n)) (lstR (joinL a b i j n)), .int .i64 0])) σ := hash_collect h hn h4

theorem Xq55_spec {f g : SlF} {a b : Rows} {i j : Int} (h : JoinOk a b i j) (h4 : (joinL a b i j (-1)).length ≤ 4096) {lv : List Nat} {σ : Sto} {R : Post} : Cw T true i_Xq55 [rowsA f a, rowsA g b, onA i j] lv σ R ↔ R (.tup [rowsA (flO (joinL a b i j (-1))) (lstR (joinL a b i j (-1))), .int .i64 0]) σ := by
 refine cw_intro T_Xq55 (by simp only [go_sem]) (by simp) ?_; rw [run_unfold Xq55.main.eq_1]
 simp (maxSteps := 2000000) only [go_sem, Xq58_call h.fa h.fb, fit_all h.hi h.ca, fit_all h.hj h.cb, Xq48_call h.fb h.cb, hash_call h (show (-1 : Int) ≤ 1000 by omega) h4, Bool.true_and]
 done
@[go_sem] theorem Xq55_call {f g : SlF} {a b : Rows} {i j : Int} (h : JoinOk a b i j) (h4 : (joinL a b i j (-1)).length ≤ 4096) {Q : Post3} {k : List Item} {os : List AOper} {d : Option Nat} {e : Env} {σ : Sto} : CallK T Q k os d e σ true i_Xq55 [rowsA f a, rowsA g b, onA i j] ↔ Run T Q (.ops os :: k) (put e d (.tup [rowsA (flO (joinL a b i j (-1))) (lstR (joinL a b i j (-1))), .int .i64 0])) σ := Xq55_spec h h4

theorem Xq67_spec {f g : SlF} {a b : Rows} {i j : Int} (h : JoinOk a b i j) (h4 : (joinL a b i j (-1)).length ≤ 4096) {lv : List Nat} {σ : Sto} {R : Post} : Cw T true i_Xq67 [rowsA f a, rowsA g b, onA i j] lv σ R ↔ R (.agg [rowsA (flO (joinL a b i j (-1))) (lstR (joinL a b i j (-1))), .int .i64 0]) σ := by
 refine cw_intro T_Xq67 (by simp only [go_sem]) (by simp) ?_; rw [run_unfold Xq67.main.eq_1]
 simp (maxSteps := 2000000) only [go_sem, Xq55_call h h4]
 done
@[go_sem] theorem Xq67_call {f g : SlF} {a b : Rows} {i j : Int} (h : JoinOk a b i j) (h4 : (joinL a b i j (-1)).length ≤ 4096) {Q : Post3} {k : List Item} {os : List AOper} {d : Option Nat} {e : Env} {σ : Sto} : CallK T Q k os d e σ true i_Xq67 [rowsA f a, rowsA g b, onA i j] ↔ Run T Q (.ops os :: k) (put e d (.agg [rowsA (flO (joinL a b i j (-1))) (lstR (joinL a b i j (-1))), .int .i64 0])) σ := Xq67_spec h h4


def flR (D : Rows) : SlF := if D = [] then .nil else .lst
abbrev outR (D : Rows) : AObj := .cells true (D.map fun p => rowA p.1 p.2)
theorem snap_out {n o : Nat} {σ : Sto} {D : Rows} (hσ : σ[o]? = some (outR D)) : snapA σ (n + 2) (.ref o D.length 0 D.length 1) = some (rowsA (flR D) D) := by
 have h0 : (AVal.ref o D.length 0 D.length 1).pure = false := by simp [AVal.names]
 have hl : (D.map fun p => rowA p.1 p.2).length = D.length := List.length_map ..
 have hp : AVal.pures (D.map fun p => rowA p.1 p.2) = true := v_names_map (fun _ => sv_pure) D
 rw [snapA, h0]
 have hc := chunk_one (D.map fun p => rowA p.1 p.2)
 rw [hl] at hc
 simp only [Bool.false_eq_true, if_false, hσ, hl, Nat.zero_add, Nat.mul_one, Nat.le_refl, Nat.zero_lt_one, and_self, if_true, Bool.true_and, List.drop_zero]
 rw [List.take_of_length_le (by rw [hl]; exact Nat.le_refl _), mapM_snapN hp]
 unfold flR
 cases D with
 | nil => rfl
 | cons d D =>
  rw [rowsA, sv_ne (by simp)]
  simp only [List.map_cons, List.length_cons] at hc
  simp [hc]
def hasP (b : Rows) (i j : Int) (x : List Val) : Bool := b.any (partP x i j)
abbrev sEnv (b : Rows) (i j : Int) (w : Bool) (f : SlF) (a D : Rows) (k : Nat) : List (Nat × AVal) := [(3, .bool w), (10, tblC b i j), (11, .ref 1 D.length 0 D.length 1), (23, rowsA f a), (24, .int .i64 a.length), (25, .int .i64 k)]
theorem has_nil {b : Rows} {i j : Int} {x : List Val} : hasP b i j x = false ↔ b.filter (partP x i j) = [] := by
 rw [hasP, List.any_eq_false, List.filter_eq_nil_iff]
theorem appV {A B : AObj} {D : Rows} {p : SlF × List Val} (hD : D.length ≤ 1000000) : appendV 1 24 (.ref 1 D.length 0 D.length 1) (.ref 4 1 0 1 1) [A, outR D, B, .dead, .cells false [rowA p.1 p.2]] = some (.ref 1 (D.length + 1) 0 (D.length + 1) 1, [A, outR (D ++ [p]), B, .dead, .cells false [rowA p.1 p.2]]) := by
 rw [appendV_push (nl := true) (nl' := false) (cs := D.map fun p => rowA p.1 p.2) (v := rowA p.1 p.2) rfl rfl (by simp) sv_one' (by simp only [maxBytes]; omega)]
 simp only [outR, List.map_append, List.map_cons, List.map_nil]
 rfl
abbrev sE (b : Rows) (i j : Int) (w : Bool) (f : SlF) (a D : Rows) (k : Nat) (p : SlF × List Val) (it : AVal) : Env := mkE 42 [(3, .bool w), (10, tblC b i j), (11, .ref 1 D.length 0 D.length 1), (13, rowA p.1 p.2), (14, .ptr 2 1 0), (23, rowsA f a), (24, .int .i64 a.length), (25, .int .i64 k), (31, it)]
abbrev sS (i j : Int) (D : Rows) (fd : Bool) (e : Env) (st : LSt) : Sto := [.cells false [.int .i64 i, .int .i64 j], outR D, .cells false [.bool fd], .loop [32] Xq50.y0 e st]
theorem some_yield {b : Rows} {i j : Int} {w : Bool} {f : SlF} {a D : Rows} {k : Nat} {p q : SlF × List Val} {it : AVal} : Yields 3 (rowA q.1 q.2) (sS i j D false (sE b i j w f a D k p it) .ready) false (sS i j D true (sE b i j w f a D k p it) (.done (.exit 2))) := by
 intro R hR
 rw [cw_yield no_yield]
 simp (maxSteps := 2000000) only [go_sem, putAll_one, List.length_cons, List.length_nil, true_and]
 rw [run_unfold Xq50.y0.eq_1]
 simp (maxSteps := 2000000) only [go_sem]
 exact hR
theorem some_loop {f : SlF} {a b : Rows} {i j : Int} {w : Bool} (h : JoinOk a b i j) : ∀ k, k ≤ a.length → ∀ D, D.length ≤ k →
  Run T (Res [.tmp 8, .tmp 9] (.tup [rowsA (flR (D ++ (a.drop k).filter fun p => hasP b i j p.2 == w)) (D ++ (a.drop k).filter fun p => hasP b i j p.2 == w), .int .i64 0])) (.inLoop Xq50.b0 :: Xq50.k0) (mkE 42 (sEnv b i j w f a D k)) [.cells false [.int .i64 i, .int .i64 j], outR D] := by
 have ha1 := h.fa.1
 refine up_ind (fun D hD => ?_) fun k hk ih D hD => ?_
 ·rw [run_round, run_unfold Xq50.b0.eq_1]
  have hs := snap_out (n := 61) (o := 1) (σ := [.cells false [.int .i64 i, .int .i64 j], outR D]) (D := D) rfl
  simp (maxSteps := 2000000) only [go_sem, run_unfold Xq50.c0.eq_1, run_unfold Xq50.c1.eq_1, run_unfold Xq50.c2.eq_1, run_unfold Xq50.c3.eq_1, Xq50.k0, List.drop_length, Int.lt_irrefl, hs, List.filter_nil, List.append_nil]
 ·rw [run_round, run_unfold Xq50.b0.eq_1]
  rw [List.drop_eq_getElem_cons hk, List.filter_cons]
  obtain ⟨gi, fi, ci, hcall, hund, hiter⟩ := ofTbl (j := j) h.fb (h.ca _ (List.getElem_mem hk)) (fx := a[k].1) [.cells false [.int .i64 i, .int .i64 j], outR D, .cells false [.bool false]]
  simp (maxSteps := 2000000) only [go_sem, hk]
  refine hcall _ ?_
  simp (maxSteps := 2000000) only [go_sem]
  unfold RangeC
  refine hiter (o := 3) (L := 4) (G := fun τ => τ = sS i j D false (sE b i j w f a D k a[k] (.clo (.func gi) fi ci)) .ready) ?_ (by decide) (by simp) (τ := sS i j D (hasP b i j a[k].2) (sE b i j w f a D k a[k] (.clo (.func gi) fi ci)) (if hasP b i j a[k].2 = true then .done (.exit 2) else .ready)) ?_ ?_
  ·rintro τ rfl
   refine ⟨rfl, ?_, fun q ob hq => by simp at hq⟩
   have hit : (AVal.clo (.func gi) fi ci).under 3 = true := hund
   have hof : (tblC b i j).under 4 = true := AVal.names_imp (by simp) _ tblC_pure
   simp only [List.all_cons, List.all_nil, Bool.and_true, Bool.and_eq_true]
   refine ⟨by simp (maxSteps := 2000000) only [go_sem], v_names_map (fun _ => sv_pure) _, by simp (maxSteps := 2000000) only [go_sem], mkE_names fun q hq => ?_⟩
   simp only [List.mem_cons, List.not_mem_nil, or_false] at hq
   rcases hq with rfl | rfl | rfl | rfl | rfl | rfl | rfl | rfl | rfl
   all_goals first | exact hof | exact AVal.names_le hit (by omega) | exact sv_pure | rfl
  ·cases hp : b.filter (partP a[k].2 i j) with
   | nil =>
    rw [has_nil.2 hp]
    exact .nil rfl
   | cons y ys =>
    have h0 : hasP b i j a[k].2 = true := by
     cases hh : hasP b i j a[k].2
     ·rw [has_nil.1 hh] at hp; cases hp
     ·rfl
    rw [h0]
    exact .stop rfl some_yield
  ·have hof : (tblC b i j).under 2 = true := AVal.names_imp (by simp) _ tblC_pure
   have hof2 := hof
   simp only [AVal.under, AVal.names, Bool.and_eq_true] at hof2
   have w1 := wrap_succ (show k < 9223372036854775807 by omega)
   have ih1 := ih D (by omega)
   have ih2 := ih (D ++ [a[k]]) (by simp only [List.length_append, List.length_cons, List.length_nil]; omega)
   simp only [sEnv, List.length_append, List.length_cons, List.length_nil, Nat.zero_add, List.append_assoc, List.cons_append, List.nil_append] at ih1 ih2
   have appV' := fun {A B : AObj} => @appV A B D a[k] (by omega)
   unfold RangeK
   cases hp : hasP b i j a[k].2 <;> cases w
   ·simp (maxSteps := 2000000) only [go_sem, hof, hof2, run_unfold Xq50.c0.eq_1, run_unfold Xq50.c1.eq_1, run_unfold Xq50.c2.eq_1, run_unfold Xq50.c3.eq_1, Xq50.k0, appV', w1, show (false == true) = false from rfl, show (true == false) = false from rfl]
    exact ⟨v_names_map (fun _ => sv_pure) _, ih2⟩
   ·simp (maxSteps := 2000000) only [go_sem, hof, hof2, run_unfold Xq50.c0.eq_1, run_unfold Xq50.c1.eq_1, run_unfold Xq50.c2.eq_1, run_unfold Xq50.c3.eq_1, Xq50.k0, appV', w1, show (false == true) = false from rfl, show (true == false) = false from rfl]
    exact ⟨v_names_map (fun _ => sv_pure) _, ih1⟩
   ·simp (maxSteps := 2000000) only [go_sem, hof, hof2, run_unfold Xq50.c0.eq_1, run_unfold Xq50.c1.eq_1, run_unfold Xq50.c2.eq_1, run_unfold Xq50.c3.eq_1, Xq50.k0, appV', w1, show (false == true) = false from rfl, show (true == false) = false from rfl]
    exact ⟨v_names_map (fun _ => sv_pure) _, ih1⟩
   ·simp (maxSteps := 2000000) only [go_sem, hof, hof2, run_unfold Xq50.c0.eq_1, run_unfold Xq50.c1.eq_1, run_unfold Xq50.c2.eq_1, run_unfold Xq50.c3.eq_1, Xq50.k0, appV', w1, show (false == true) = false from rfl, show (true == false) = false from rfl]
    exact ⟨v_names_map (fun _ => sv_pure) _, ih2⟩

abbrev someR (a b : Rows) (i j : Int) (w : Bool) : Rows := a.filter fun p => hasP b i j p.2 == w
theorem Xq50_spec {f g : SlF} {a b : Rows} {i j : Int} {w : Bool} (h : JoinOk a b i j) {lv : List Nat} {σ : Sto} {R : Post} : Cw T true i_Xq50 [rowsA f a, rowsA g b, onA i j, .bool w] lv σ R ↔ R (.tup [rowsA (flR (someR a b i j w)) (someR a b i j w), .int .i64 0]) σ := by
 refine cw_intro T_Xq50 (by simp only [go_sem]) (by simp) ?_; rw [run_unfold Xq50.main.eq_1]
 have hl := some_loop (f := f) (w := w) h 0 (by omega) [] (by simp)
 simp only [List.drop_zero, sEnv, List.nil_append] at hl
 simp (maxSteps := 2000000) only [go_sem, Xq58_call h.fa h.fb, fit_all h.hi h.ca, fit_all h.hj h.cb, Xq48_call h.fb h.cb, Bool.true_and]
 exact hl
@[go_sem] theorem Xq50_call {f g : SlF} {a b : Rows} {i j : Int} {w : Bool} (h : JoinOk a b i j) {Q : Post3} {k : List Item} {os : List AOper} {d : Option Nat} {e : Env} {σ : Sto} : CallK T Q k os d e σ true i_Xq50 [rowsA f a, rowsA g b, onA i j, .bool w] ↔ Run T Q (.ops os :: k) (put e d (.tup [rowsA (flR (someR a b i j w)) (someR a b i j w), .int .i64 0])) σ := Xq50_spec h

theorem Xq57_spec {f g : SlF} {a b : Rows} {i j : Int} (h : JoinOk a b i j) {lv : List Nat} {σ : Sto} {R : Post} : Cw T true i_Xq57 [rowsA f a, rowsA g b, onA i j] lv σ R ↔ R (.tup [rowsA (flR (someR a b i j true)) (someR a b i j true), .int .i64 0]) σ := by
 refine cw_intro T_Xq57 (by simp only [go_sem]) (by simp) ?_; rw [run_unfold Xq57.main.eq_1]
 simp (maxSteps := 2000000) only [go_sem, Xq50_call h]
 done
@[go_sem] theorem Xq57_call {f g : SlF} {a b : Rows} {i j : Int} (h : JoinOk a b i j) {Q : Post3} {k : List Item} {os : List AOper} {d : Option Nat} {e : Env} {σ : Sto} : CallK T Q k os d e σ true i_Xq57 [rowsA f a, rowsA g b, onA i j] ↔ Run T Q (.ops os :: k) (put e d (.tup [rowsA (flR (someR a b i j true)) (someR a b i j true), .int .i64 0])) σ := Xq57_spec h

theorem Xq54_spec {f g : SlF} {a b : Rows} {i j : Int} (h : JoinOk a b i j) {lv : List Nat} {σ : Sto} {R : Post} : Cw T true i_Xq54 [rowsA f a, rowsA g b, onA i j] lv σ R ↔ R (.tup [rowsA (flR (someR a b i j false)) (someR a b i j false), .int .i64 0]) σ := by
 refine cw_intro T_Xq54 (by simp only [go_sem]) (by simp) ?_; rw [run_unfold Xq54.main.eq_1]
 simp (maxSteps := 2000000) only [go_sem, Xq50_call h]
 done
@[go_sem] theorem Xq54_call {f g : SlF} {a b : Rows} {i j : Int} (h : JoinOk a b i j) {Q : Post3} {k : List Item} {os : List AOper} {d : Option Nat} {e : Env} {σ : Sto} : CallK T Q k os d e σ true i_Xq54 [rowsA f a, rowsA g b, onA i j] ↔ Run T Q (.ops os :: k) (put e d (.tup [rowsA (flR (someR a b i j false)) (someR a b i j false), .int .i64 0])) σ := Xq54_spec h

theorem Xq66_spec {f g : SlF} {a b : Rows} {i j : Int} (h : JoinOk a b i j) {lv : List Nat} {σ : Sto} {R : Post} : Cw T true i_Xq66 [rowsA f a, rowsA g b, onA i j] lv σ R ↔ R (.agg [rowsA (flR (someR a b i j true)) (someR a b i j true), .int .i64 0]) σ := by
 refine cw_intro T_Xq66 (by simp only [go_sem]) (by simp) ?_; rw [run_unfold Xq66.main.eq_1]
 simp (maxSteps := 2000000) only [go_sem, Xq57_call h]
 done
@[go_sem] theorem Xq66_call {f g : SlF} {a b : Rows} {i j : Int} (h : JoinOk a b i j) {Q : Post3} {k : List Item} {os : List AOper} {d : Option Nat} {e : Env} {σ : Sto} : CallK T Q k os d e σ true i_Xq66 [rowsA f a, rowsA g b, onA i j] ↔ Run T Q (.ops os :: k) (put e d (.agg [rowsA (flR (someR a b i j true)) (someR a b i j true), .int .i64 0])) σ := Xq66_spec h

theorem Xq62_spec {f g : SlF} {a b : Rows} {i j : Int} (h : JoinOk a b i j) {lv : List Nat} {σ : Sto} {R : Post} : Cw T true i_Xq62 [rowsA f a, rowsA g b, onA i j] lv σ R ↔ R (.agg [rowsA (flR (someR a b i j false)) (someR a b i j false), .int .i64 0]) σ := by
 refine cw_intro T_Xq62 (by simp only [go_sem]) (by simp) ?_; rw [run_unfold Xq62.main.eq_1]
 simp (maxSteps := 2000000) only [go_sem, Xq54_call h]
 done
@[go_sem] theorem Xq62_call {f g : SlF} {a b : Rows} {i j : Int} (h : JoinOk a b i j) {Q : Post3} {k : List Item} {os : List AOper} {d : Option Nat} {e : Env} {σ : Sto} : CallK T Q k os d e σ true i_Xq62 [rowsA f a, rowsA g b, onA i j] ↔ Run T Q (.ops os :: k) (put e d (.agg [rowsA (flR (someR a b i j false)) (someR a b i j false), .int .i64 0])) σ := Xq62_spec h

end Go.Abs
/- Walks of chapter 40: the examples; what a case describes. -/
set_option linter.unusedSimpArgs false
set_option linter.unusedVariables false
set_option maxRecDepth 100000
set_option maxHeartbeats 4000000
namespace Go.Abs
open Go
theorem Xq29_says : fSays T 400 i_Xq29 [] AVal.isTrue = true := by kernel_rfl
theorem Xq29_spec {lv : List Nat} {σ : Sto} {R : Post} : Cw T true i_Xq29 [] lv σ R ↔ R (.bool true) σ := cw_true T_Xq29 rfl Xq29_says
@[go_sem] theorem Xq29_call {Q : Post3} {k : List Item} {os : List AOper} {d : Option Nat} {e : Env} {σ : Sto} : CallK T Q k os d e σ true i_Xq29 [] ↔ Run T Q (.ops os :: k) (put e d (.bool true)) σ := Xq29_spec

structure Cas where
 fa : SlF
 a : List Nat
 fb : SlF
 b : List Nat
 wa : Nat
 wb : Nat
 o0 : Nat
 o1 : Nat
structure Cas.Ok (z : Cas) : Prop where
 la : z.a.length < 9223372036854775808
 lb : z.b.length < 9223372036854775808
 ba : ∀ x ∈ z.a, x < 256
 bb : ∀ x ∈ z.b, x < 256
 hwa : z.wa < 256
 hwb : z.wb < 256
 h0 : z.o0 < 256
 h1 : z.o1 < 256
abbrev Cas.v (z : Cas) : AVal := .agg [bytesA z.fa z.a, bytesA z.fb z.b, .int .u8 (z.wa : Int), .int .u8 (z.wb : Int), .int .u8 (z.o0 : Int), .int .u8 (z.o1 : Int)]
abbrev Cas.m (z : Cas) : Nat := 1 + z.wa % 3
abbrev Cas.n (z : Cas) : Nat := 1 + z.wb % 3
abbrev Cas.A (z : Cas) : Rows := lstR (mkRows z.a z.m)
abbrev Cas.B (z : Cas) : Rows := lstR (mkRows z.b z.n)
abbrev Cas.i (z : Cas) : Int := ((z.o0 % z.m : Nat) : Int)
abbrev Cas.j (z : Cas) : Int := ((z.o1 % z.n : Nat) : Int)
theorem Xq65_callN {f : SlF} {b : List Nat} {w : Nat} (hb : b.length < 9223372036854775808) (hby : ∀ x ∈ b, x < 256) (hw0 : 0 < w) (hw : w ≤ 3) {q : Int} (hq : q = w) {Q : Post3} {k : List Item} {os : List AOper} {d : Option Nat} {e : Env} {σ : Sto} : CallK T Q k os d e σ true i_Xq65 [bytesA f b, .int .i64 q] ↔ Run T Q (.ops os :: k) (put e d (rowsA .lst (lstR (mkRows b w)))) σ := by
 subst hq; exact Xq65_call hb hby hw0 hw
theorem wid {w : Nat} : IntKind.i64.wrap (1 + IntKind.i64.wrap ((w : Int).tmod 3)) = ((1 + w % 3 : Nat) : Int) := by
 have h3 : (w : Int).tmod 3 = ((w % 3 : Nat) : Int) := rfl
 rw [h3, wrap_nat (by omega), show (1 : Int) + ((w % 3 : Nat) : Int) = ((1 + w % 3 : Nat) : Int) by omega, wrap_nat (by omega)]
theorem wix {o m : Nat} (h : o < 256) : (IntKind.i64.wrap (o : Int)).tmod (m : Int) = ((o % m : Nat) : Int) := by
 rw [wrap_nat (by omega)]; rfl
theorem Xq61_spec {z : Cas} (h : z.Ok) {lv : List Nat} {σ : Sto} {R : Post} : Cw T true i_Xq61 [z.v] lv σ R ↔ R (.agg [rowsA .lst z.A, rowsA .lst z.B, .int .i64 z.i, .int .i64 z.j]) σ := by
 refine cw_intro T_Xq61 (by simp only [go_sem]) (by simp) ?_; rw [run_unfold Xq61.main.eq_1]
 have hm := wid (w := z.wa)
 have hn := wid (w := z.wb)
 have hi := wix (o := z.o0) (m := z.m) h.h0
 have hj := wix (o := z.o1) (m := z.n) h.h1
 have m3 : z.m ≤ 3 := by show 1 + z.wa % 3 ≤ 3; omega
 have m0 : ¬ ((1 + z.wa % 3 : Nat) : Int) = 0 := by omega
 have n0 : ¬ ((1 + z.wb % 3 : Nat) : Int) = 0 := by omega
 have n3 : z.n ≤ 3 := by show 1 + z.wb % 3 ≤ 3; omega
 have cA := fun {Q k os d e σ} => @Xq65_call z.fa z.a z.m h.la h.ba (show 0 < 1 + z.wa % 3 by omega) m3 Q k os d e σ
 have cB := fun {Q k os d e σ} => @Xq65_call z.fb z.b z.n h.lb h.bb (show 0 < 1 + z.wb % 3 by omega) n3 Q k os d e σ
 simp (maxSteps := 2000000) only [go_sem, ↓reduceIte, Nat.reduceLT, Nat.reduceEqDiff, Nat.reduceLeDiff, Nat.reduceAdd, Nat.reduceSub, Nat.reduceMul, Int.reduceLT, Int.reduceLE, Int.reduceEq, Int.reduceNeg, hm, hn, cA, cB, hi, hj, m0, n0]
@[go_sem] theorem Xq61_call {z : Cas} (h : z.Ok) {Q : Post3} {k : List Item} {os : List AOper} {d : Option Nat} {e : Env} {σ : Sto} : CallK T Q k os d e σ true i_Xq61 [z.v] ↔ Run T Q (.ops os :: k) (put e d (.agg [rowsA .lst z.A, rowsA .lst z.B, .int .i64 z.i, .int .i64 z.j])) σ := Xq61_spec h

end Go.Abs
