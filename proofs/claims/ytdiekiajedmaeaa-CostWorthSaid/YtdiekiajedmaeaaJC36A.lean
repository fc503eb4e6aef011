/- Parts of the proof: C36A, C36B. -/
import Derived.Test.YtdiekiajedmaeaaC36F
import Derived.Test.YtdiekiajedmaeaaAbsVal
import Derived.Test.YtdiekiajedmaeaaJAbsLaw
import Derived.KernelRfl
set_option linter.all false
/- Walks of chapter 36: pieces, which are valid, what reading costs. -/
set_option linter.unusedSimpArgs false
set_option linter.unusedVariables false
set_option maxRecDepth 100000
set_option maxHeartbeats 4000000
namespace Go.Abs
open Go
attribute [local go_sem_proc] Nat.reduceLT Nat.reduceEqDiff Nat.reduceLeDiff Nat.reduceAdd Nat.reduceSub Nat.reduceMul Int.reduceLT Int.reduceLE Int.reduceEq Int.reduceNeg
attribute [local go_sem_proc ↓] reduceIte

attribute [go_sem] ZY List.headD_cons
abbrev ZG {α : Type} (l : List α) : Prop := l.length < 9223372036854775807
structure Pc where
 n : Int
 b : Int
 deriving DecidableEq
abbrev pcA (f : SlF) (l : List Pc) : AVal := sv 2 f (l.map fun p => .agg [.int .i64 p.n, .int .i64 p.b])
abbrev pcO (l : List Pc) : AObj := .cells false (l.flatMap fun p => [.int .i64 p.n, .int .i64 p.b])
abbrev pcR (o : Nat) (l : List Pc) : AVal := .ref o (l.length * 2) 0 l.length 2
theorem ZjK {l : List Pc} : AVal.list 2 (ZY 2 l.length (l.flatMap fun p => [.int .i64 p.n, .int .i64 p.b])) = pcA .lst l := by
 rw [Zea (k := 2) (by decide) (fun _ => rfl), pcA, sv_lst]
theorem ZiG {n o : Nat} {σ : Sto} {l : List Pc} (hσ : σ[o]? = some (pcO l)) : Zn σ (n + 2) (pcR o l) = some (pcA .lst l) := by
 rw [ZgR hσ (Zcy (k := 2) (fun _ => rfl) l) rfl (by decide) (ZaF (fun _ => rfl) l), ZjK]
theorem ZoN {o o' : Nat} {σ : Sto} {X : List Pc} {y : Pc} (hσ : σ[o]? = some (pcO X)) (hσ' : σ[o']? = some (.cells false [.int .i64 y.n, .int .i64 y.b])) (hb : X.length ≤ 1000000) :
  Zbv 2 16 (pcR o X) (.ref o' 2 0 1 2) σ = some (pcR o (X ++ [y]), σ.set o (pcO (X ++ [y]))) :=
 ZgU (g := fun p : Pc => [.int .i64 p.n, .int .i64 p.b]) (by decide) (fun _ => rfl) (fun _ => rfl) hσ hσ' (by simp only [Zm]; omega)

def okP (p : Pc) : Bool := decide (1 ≤ p.n ∧ p.n ≤ 5994 ∧ 0 ≤ p.b ∧ p.b ≤ 1000000000)
def ZJ (l : List Pc) : Bool := decide (l.length ≤ 512) && l.all okP
theorem ZmF {p : Pc} {lv : List Nat} {σ : Sto} {R : Zs} : Cw T true i_Xq34 [.agg [.int .i64 p.n, .int .i64 p.b]] lv σ R ↔ R (.bool (!okP p)) σ := by
 refine Zt T_Xq34 (by simp only [go_sem]) (by simp) ?_; rw [Za Xq34.main.eq_1]
 unfold okP
 by_cases h1 : p.n < 1
 ·have e : ¬ (1 ≤ p.n ∧ p.n ≤ 5994 ∧ 0 ≤ p.b ∧ p.b ≤ 1000000000) := by omega
  simp (maxSteps := 2000000) only [go_sem, h1, decide_eq_false e, Bool.not_false]
 ·by_cases h2 : 5994 < p.n
  ·have e : ¬ (1 ≤ p.n ∧ p.n ≤ 5994 ∧ 0 ≤ p.b ∧ p.b ≤ 1000000000) := by omega
   simp (maxSteps := 2000000) only [go_sem, h1, h2, decide_eq_false e, Bool.not_false]
  ·by_cases h3 : p.b < 0
   ·have e : ¬ (1 ≤ p.n ∧ p.n ≤ 5994 ∧ 0 ≤ p.b ∧ p.b ≤ 1000000000) := by omega
    simp (maxSteps := 2000000) only [go_sem, h1, h2, h3, decide_eq_false e, Bool.not_false]
   ·by_cases h4 : 1000000000 < p.b
    ·have e : ¬ (1 ≤ p.n ∧ p.n ≤ 5994 ∧ 0 ≤ p.b ∧ p.b ≤ 1000000000) := by omega
     simp (maxSteps := 2000000) only [go_sem, h1, h2, h3, h4, decide_eq_false e, Bool.not_false]
    ·have e : (1 ≤ p.n ∧ p.n ≤ 5994 ∧ 0 ≤ p.b ∧ p.b ≤ 1000000000) := by omega
     simp (maxSteps := 2000000) only [go_sem, h1, h2, h3, h4, decide_eq_true e, Bool.not_true]
@[go_sem] theorem ZmK {p : Pc} {Q : Zg} {k : List Item} {os : List AOper} {d : Option Nat} {e : Env} {σ : Sto} : Zp T Q k os d e σ true i_Xq34 [.agg [.int .i64 p.n, .int .i64 p.b]] ↔ Run T Q (.ops os :: k) (put e d (.bool (!okP p))) σ := ZmF

abbrev ZoO : AVal := .clo (.func i_Xq34) [] []
def ixB : List Pc → Nat → Int
 | [], _ => -1
 | p :: l, i => if okP p = true then ixB l (i + 1) else (i : Int)
theorem Zln : ∀ (l : List Pc) (i : Nat), (0 ≤ ixB l i) ↔ l.all okP = false
 | [], i => by simp [ixB]
 | p :: l, i => by
  unfold ixB
  cases h : okP p
  ·simp [h]
  ·simp only [if_true, List.all_cons, h, Bool.true_and]; exact Zln l (i + 1)
theorem ZoP {f : SlF} {l : List Pc} (hl : ZG l) : ∀ i, i ≤ l.length →
  Run T (Res [.tmp 4] (.int .i64 (ixB (l.drop i) i))) (.inLoop Xq16.b0 :: Xq16.k0) (mkE 19 [(0, pcA f l), (1, ZoO), (7, .int .i64 l.length), (8, .int .i64 i)]) [] := by
 refine Zat ?_ fun i hi ih => ?_
 ·rw [Zb, Za Xq16.b0.eq_1]
  simp (maxSteps := 2000000) only [go_sem, Za Xq16.c0.eq_1, Za Xq16.c1.eq_1, Xq16.k0, Int.lt_irrefl, List.drop_length, ixB]
 ·have w1 := Zj (show i < 9223372036854775807 by have : l.length < _ := hl; omega)
  rw [List.drop_eq_getElem_cons hi, ixB]
  rw [Zb, Za Xq16.b0.eq_1]
  have hc := @ZmK l[i]
  cases h : okP l[i]
  ·simp (maxSteps := 2000000) only [go_sem, hi, hc, h, Bool.not_false]
   done
  ·simp (maxSteps := 2000000) only [go_sem, hi, hc, h, Bool.not_true, w1, Za Xq16.c0.eq_1, Za Xq16.c1.eq_1, Xq16.k0]
   exact ih
theorem ZmG {f : SlF} {l : List Pc} (hl : ZG l) {lv : List Nat} {σ : Sto} {R : Zs} : Cw T true i_Xq16 [pcA f l, ZoO] lv σ R ↔ R (.int .i64 (ixB l 0)) σ := by
 refine Zt T_Xq16 (by simp only [go_sem]) (by simp) ?_; rw [Za Xq16.main.eq_1]
 have h := ZoP (f := f) hl 0 (by omega)
 simp only [List.drop_zero] at h
 simp (maxSteps := 2000000) only [go_sem]
 exact h
@[go_sem] theorem ZhV {f : SlF} {l : List Pc} (hl : ZG l) {Q : Zg} {k : List Item} {os : List AOper} {d : Option Nat} {e : Env} {σ : Sto} : Zp T Q k os d e σ true i_Xq16 [pcA f l, ZoO] ↔ Run T Q (.ops os :: k) (put e d (.int .i64 (ixB l 0))) σ := ZmG hl

theorem ZmH {f : SlF} {l : List Pc} (hl : ZG l) {lv : List Nat} {σ : Sto} {R : Zs} : Cw T true i_Xq10 [pcA f l, ZoO] lv σ R ↔ R (.bool (!l.all okP)) σ := by
 refine Zt T_Xq10 (by simp only [go_sem]) (by simp) ?_; rw [Za Xq10.main.eq_1]
 have hn := Zln l 0
 cases h : l.all okP
 ·have h' : 0 ≤ ixB l 0 := hn.2 h
  simp (maxSteps := 2000000) only [go_sem, ZhV hl, h', Bool.not_false, decide_true]
 ·have h' : ¬ 0 ≤ ixB l 0 := fun e => by rw [hn.1 e] at h; cases h
  simp (maxSteps := 2000000) only [go_sem, ZhV hl, h', Bool.not_true, decide_false]
@[go_sem] theorem ZmL {f : SlF} {l : List Pc} (hl : ZG l) {Q : Zg} {k : List Item} {os : List AOper} {d : Option Nat} {e : Env} {σ : Sto} : Zp T Q k os d e σ true i_Xq10 [pcA f l, ZoO] ↔ Run T Q (.ops os :: k) (put e d (.bool (!l.all okP))) σ := ZmH hl

theorem ZmI {f : SlF} {l : List Pc} (hl : ZG l) {lv : List Nat} {σ : Sto} {R : Zs} : Cw T true i_Xq48 [pcA f l] lv σ R ↔ R (.bool (ZJ l)) σ := by
 refine Zt T_Xq48 (by simp only [go_sem]) (by simp) ?_; rw [Za Xq48.main.eq_1]
 unfold ZJ
 by_cases h : l.length ≤ 512
 ·have h' : ((l.length : Nat) : Int) ≤ 512 := by omega
  simp (maxSteps := 2000000) only [go_sem, h', ZmL hl, decide_eq_true h, Bool.true_and, Bool.not_not]
 ·have h' : ¬ ((l.length : Nat) : Int) ≤ 512 := by omega
  simp (maxSteps := 2000000) only [go_sem, h', decide_eq_false h, Bool.false_and]
@[go_sem] theorem ZbR {f : SlF} {l : List Pc} (hl : ZG l) {Q : Zg} {k : List Item} {os : List AOper} {d : Option Nat} {e : Env} {σ : Sto} : Zp T Q k os d e σ true i_Xq48 [pcA f l] ↔ Run T Q (.ops os :: k) (put e d (.bool (ZJ l))) σ := ZmI hl

theorem Zp5 {f : SlF} {l : List Pc} (hl : ZG l) : ∀ i, i ≤ l.length →
  Run T (Res [.tmp 2] (.bool (decide (l.length ≤ 512) && (l.drop i).all okP))) (.inLoop Xq59.b0 :: Xq59.k0) (mkE 43 [(0, pcA f l), (3, .int .i64 i)]) [] := by
 refine Zat ?_ fun i hi ih => ?_
 ·rw [Zb, Za Xq59.b0.eq_1]
  rw [List.drop_length]
  by_cases h : l.length ≤ 512
  ·have h' : ((l.length : Nat) : Int) ≤ 512 := by omega
   simp (maxSteps := 2000000) only [go_sem, Za Xq59.c0.eq_1, Xq59.k0, Int.lt_irrefl, h, h', decide_true, List.all_nil, Bool.true_and]
  ·have h' : ¬ ((l.length : Nat) : Int) ≤ 512 := by omega
   simp (maxSteps := 2000000) only [go_sem, Za Xq59.c0.eq_1, Xq59.k0, Int.lt_irrefl, h, h', decide_false, List.all_nil, Bool.false_and]
 ·have w1 := Zj (show i < 9223372036854775807 by have : l.length < _ := hl; omega)
  rw [List.drop_eq_getElem_cons hi, List.all_cons]
  have bad : okP l[i] = false → (decide (l.length ≤ 512) && (okP l[i] && (l.drop (i + 1)).all okP)) = false := fun h => by rw [h, Bool.false_and, Bool.and_false]
  by_cases h1 : l[i].n < 1
  ·have e : ¬ (1 ≤ l[i].n ∧ l[i].n ≤ 5994 ∧ 0 ≤ l[i].b ∧ l[i].b ≤ 1000000000) := by omega
   rw [bad (decide_eq_false e)]
   rw [Zb, Za Xq59.b0.eq_1]
   simp (maxSteps := 2000000) only [go_sem, hi, h1]
  ·by_cases h2 : 5994 < l[i].n
   ·have e : ¬ (1 ≤ l[i].n ∧ l[i].n ≤ 5994 ∧ 0 ≤ l[i].b ∧ l[i].b ≤ 1000000000) := by omega
    rw [bad (decide_eq_false e)]
    rw [Zb, Za Xq59.b0.eq_1]
    simp (maxSteps := 2000000) only [go_sem, hi, h1, h2]
   ·by_cases h3 : l[i].b < 0
    ·have e : ¬ (1 ≤ l[i].n ∧ l[i].n ≤ 5994 ∧ 0 ≤ l[i].b ∧ l[i].b ≤ 1000000000) := by omega
     rw [bad (decide_eq_false e)]
     rw [Zb, Za Xq59.b0.eq_1]
     simp (maxSteps := 2000000) only [go_sem, hi, h1, h2, h3]
    ·by_cases h4 : 1000000000 < l[i].b
     ·have e : ¬ (1 ≤ l[i].n ∧ l[i].n ≤ 5994 ∧ 0 ≤ l[i].b ∧ l[i].b ≤ 1000000000) := by omega
      rw [bad (decide_eq_false e)]
      rw [Zb, Za Xq59.b0.eq_1]
      simp (maxSteps := 2000000) only [go_sem, hi, h1, h2, h3, h4]
     ·have e : (1 ≤ l[i].n ∧ l[i].n ≤ 5994 ∧ 0 ≤ l[i].b ∧ l[i].b ≤ 1000000000) := by omega
      have e' : okP l[i] = true := decide_eq_true e
      rw [e', Bool.true_and]
      rw [Zb, Za Xq59.b0.eq_1]
      simp (maxSteps := 2000000) only [go_sem, hi, h1, h2, h3, h4, w1, Za Xq59.c0.eq_1, Xq59.k0]
      exact ih
theorem ZmJ {f : SlF} {l : List Pc} (hl : ZG l) {lv : List Nat} {σ : Sto} {R : Zs} : Cw T true i_Xq59 [pcA f l] lv σ R ↔ R (.bool (ZJ l)) σ := by
 refine Zt T_Xq59 (by simp only [go_sem]) (by simp) ?_; rw [Za Xq59.main.eq_1]
 have h := Zp5 (f := f) hl 0 (by omega)
 simp only [List.drop_zero] at h
 simp (maxSteps := 2000000) only [go_sem]
 exact h
@[go_sem] theorem ZmM {f : SlF} {l : List Pc} (hl : ZG l) {Q : Zg} {k : List Item} {os : List AOper} {d : Option Nat} {e : Env} {σ : Sto} : Zp T Q k os d e σ true i_Xq59 [pcA f l] ↔ Run T Q (.ops os :: k) (put e d (.bool (ZJ l))) σ := ZmJ hl

end Go.Abs
/- Walks of chapter 36: the program's pieces, what reading costs, sums; what two bytes describe. -/
set_option linter.unusedSimpArgs false
set_option linter.unusedVariables false
set_option maxRecDepth 100000
set_option maxHeartbeats 4000000
namespace Go.Abs
open Go
attribute [local go_sem_proc] Nat.reduceLT Nat.reduceEqDiff Nat.reduceLeDiff Nat.reduceAdd Nat.reduceSub Nat.reduceMul Int.reduceLT Int.reduceLE Int.reduceEq Int.reduceNeg
attribute [local go_sem_proc ↓] reduceIte

theorem ZjJ {f : SlF} {l : List Pc} (hl : l.length ≤ 100000) : ∀ i, i ≤ l.length → ∀ D, D ++ l.drop i = l →
  Run T (Res [.tmp 2] (pcA .lst l)) (.inLoop Xq45.b0 :: Xq45.k0) (mkE 27 [(0, pcA f l), (3, pcR 0 D), (4, .int .i64 i)]) [pcO D] := by
 refine Zat (fun D e => ?_) fun i hi ih D e => ?_
 ·rw [List.drop_length, List.append_nil] at e
  subst e
  rw [Zb, Za Xq45.b0.eq_1]
  simp (maxSteps := 2000000) only [go_sem, Za Xq45.c0.eq_1, Xq45.k0, Int.lt_irrefl]
  rw [ZiG (n := 62) (o := 0) (l := D) rfl]
 ·rw [List.drop_eq_getElem_cons hi] at e
  have w1 := Zj (show i < 9223372036854775807 by omega)
  have hD : D.length ≤ 100000 := by have := congrArg List.length e; simp only [List.length_append, List.length_cons] at this; omega
  have ih' := ih (D ++ [l[i]]) (by rw [List.append_assoc]; exact e)
  rw [Zb, Za Xq45.b0.eq_1]
  simp (maxSteps := 2000000) only [go_sem, hi, w1]
  rw [ZoN (X := D) (y := l[i]) rfl rfl (by omega)]
  simp (maxSteps := 2000000) only [go_sem, w1]
  exact ⟨ZaF (fun _ => rfl) _, ih'⟩
theorem Zmt {f : SlF} {l : List Pc} (hl : l.length ≤ 100000) {lv : List Nat} {σ : Sto} {R : Zs} : Cw T true i_Xq45 [pcA f l] lv σ R ↔ R (pcA .lst l) σ := by
 refine Zt T_Xq45 (by simp only [go_sem]) (by simp) ?_; rw [Za Xq45.main.eq_1]
 have h := ZjJ (f := f) hl 0 (by omega) [] rfl
 simp (maxSteps := 2000000) only [go_sem]
 exact h
@[go_sem] theorem ZcX {f : SlF} {l : List Pc} (hl : l.length ≤ 100000) {Q : Zg} {k : List Item} {os : List AOper} {d : Option Nat} {e : Env} {σ : Sto} : Zp T Q k os d e σ true i_Xq45 [pcA f l] ↔ Run T Q (.ops os :: k) (put e d (pcA .lst l)) σ := Zmt hl


def Zet (l : List Pc) : Int := (l.map fun p => 4096 + p.b).sum
theorem ZhR {p : Pc} {l : List Pc} : Zet (p :: l) = 4096 + p.b + Zet l := by simp [Zet]
def ZdE (l : List Pc) : Prop := ∀ p ∈ l, 1 ≤ p.n ∧ p.n ≤ 5994 ∧ 0 ≤ p.b ∧ p.b ≤ 1000000000
theorem Zbr {l : List Pc} : ZJ l = true ↔ l.length ≤ 512 ∧ ZdE l := by
 rw [ZJ, Bool.and_eq_true, decide_eq_true_eq, List.all_eq_true]
 constructor
 ·rintro ⟨h1, h2⟩; exact ⟨h1, fun p hp => of_decide_eq_true (h2 p hp)⟩
 ·rintro ⟨h1, h2⟩; exact ⟨h1, fun p hp => decide_eq_true (h2 p hp)⟩
theorem Zmu {p : Pc} {lv : List Nat} {σ : Sto} {R : Zs} : Cw T true i_Xq44 [.agg [.int .i64 p.n, .int .i64 p.b]] lv σ R ↔ R (.int .i64 (IntKind.i64.wrap (4096 + p.b))) σ := by
 refine Zt T_Xq44 (by simp only [go_sem]) (by simp) ?_; rw [Za Xq44.main.eq_1]
 simp (maxSteps := 2000000) only [go_sem]
@[go_sem] theorem ZmC {p : Pc} {Q : Zg} {k : List Item} {os : List AOper} {d : Option Nat} {e : Env} {σ : Sto} : Zp T Q k os d e σ true i_Xq44 [.agg [.int .i64 p.n, .int .i64 p.b]] ↔ Run T Q (.ops os :: k) (put e d (.int .i64 (IntKind.i64.wrap (4096 + p.b)))) σ := Zmu

abbrev rdC : AVal := .clo (.func i_Xq44) [] []
theorem Zmv {f : SlF} {l : List Pc} (hl : l.length ≤ 512) (ho : ZdE l) : ∀ i, i ≤ l.length → ∀ c : Int, 0 ≤ c → c ≤ i * 1000004096 → c + Zet (l.drop i) = Zet l →
  Run T (Res [.tmp 4] (.int .i64 (Zet l))) (.inLoop Xq30.b0 :: Xq30.k0) (mkE 21 [(1, rdC), (5, .int .i64 c), (8, pcA f l), (9, .int .i64 l.length), (10, .int .i64 i)]) [] := by
 refine Zat (fun c h0 h1 e => ?_) fun i hi ih c h0 h1 e => ?_
 ·rw [List.drop_length, show Zet [] = 0 from rfl, Int.add_zero] at e
  subst e
  rw [Zb, Za Xq30.b0.eq_1]
  simp (maxSteps := 2000000) only [go_sem, Za Xq30.c0.eq_1, Za Xq30.c1.eq_1, Xq30.k0, Int.lt_irrefl]
 ·rw [List.drop_eq_getElem_cons hi, ZhR] at e
  obtain ⟨o1, o2, o3, o4⟩ := ho _ (List.getElem_mem hi)
  have w1 := Zj (show i < 9223372036854775807 by omega)
  have w2 : IntKind.i64.wrap (4096 + l[i].b) = 4096 + l[i].b := Zi (by omega) (by omega)
  have w3 : IntKind.i64.wrap (c + (4096 + l[i].b)) = c + (4096 + l[i].b) := Zi (by omega) (by omega)
  have ih' := ih (c + (4096 + l[i].b)) (by omega) (by rw [Int.natCast_succ, Int.add_mul]; omega) (by rw [← e, Int.add_assoc])
  have hc := @ZmC l[i]
  rw [w2] at hc
  rw [Zb, Za Xq30.b0.eq_1]
  simp (maxSteps := 2000000) only [go_sem, hi, w1, w3, hc]
  exact ih'
theorem Zmw {f : SlF} {l : List Pc} (hl : l.length ≤ 512) (ho : ZdE l) {lv : List Nat} {σ : Sto} {R : Zs} : Cw T true i_Xq30 [pcA f l, rdC] lv σ R ↔ R (.int .i64 (Zet l)) σ := by
 refine Zt T_Xq30 (by simp only [go_sem]) (by simp) ?_; rw [Za Xq30.main.eq_1]
 have h := Zmv (f := f) hl ho 0 (by omega) 0 (by omega) (by omega) (by rw [List.drop_zero, Int.zero_add])
 simp (maxSteps := 2000000) only [go_sem]
 exact h
@[go_sem] theorem ZmD {f : SlF} {l : List Pc} (hl : l.length ≤ 512) (ho : ZdE l) {Q : Zg} {k : List Item} {os : List AOper} {d : Option Nat} {e : Env} {σ : Sto} : Zp T Q k os d e σ true i_Xq30 [pcA f l, rdC] ↔ Run T Q (.ops os :: k) (put e d (.int .i64 (Zet l))) σ := Zmw hl ho

def ZgV (l : List Pc) : Int := if ZJ l = true then Zet l else 0
def ZgW (l : List Pc) : Int := if ZJ l = true then 0 else 1
theorem Zmx {f : SlF} {l : List Pc} (hl : ZG l) {lv : List Nat} {σ : Sto} {R : Zs} : Cw T true i_Xq61 [pcA f l] lv σ R ↔ R (.tup [.int .i64 (ZgV l), .int .i64 (ZgW l)]) σ := by
 refine Zt T_Xq61 (by simp only [go_sem]) (by simp) ?_; rw [Za Xq61.main.eq_1]
 unfold ZgV ZgW
 cases h : ZJ l
 ·simp (maxSteps := 2000000) only [go_sem, ZbR hl, h]
 ·obtain ⟨h1, h2⟩ := Zbr.1 h
  simp (maxSteps := 2000000) only [go_sem, ZbR hl, h, ZmD h1 h2]
@[go_sem] theorem ZmE {f : SlF} {l : List Pc} (hl : ZG l) {Q : Zg} {k : List Item} {os : List AOper} {d : Option Nat} {e : Env} {σ : Sto} : Zp T Q k os d e σ true i_Xq61 [pcA f l] ↔ Run T Q (.ops os :: k) (put e d (.tup [.int .i64 (ZgV l), .int .i64 (ZgW l)])) σ := Zmx hl

theorem Zmy {f : SlF} {l : List Pc} (hl : l.length ≤ 100000) {lv : List Nat} {σ : Sto} {R : Zs} : Cw T true i_Xq65 [pcA f l] lv σ R ↔ R (.agg [.nils, .nils, .int .i64 (ZgV l), .int .i64 (ZgW l)]) σ := by
 refine Zt T_Xq65 (by simp only [go_sem]) (by simp) ?_; rw [Za Xq65.main.eq_1]
 have hf : ZG l := by show l.length < _; omega
 simp (maxSteps := 2000000) only [go_sem, ZcX hl, ZmE hf]
@[go_sem] theorem ZhS {f : SlF} {l : List Pc} (hl : l.length ≤ 100000) {Q : Zg} {k : List Item} {os : List AOper} {d : Option Nat} {e : Env} {σ : Sto} : Zp T Q k os d e σ true i_Xq65 [pcA f l] ↔ Run T Q (.ops os :: k) (put e d (.agg [.nils, .nils, .int .i64 (ZgV l), .int .i64 (ZgW l)])) σ := Zmy hl


def ZeZ (l : List Pc) : Int := (l.map (·.n)).sum
def ZdZ (l : List Pc) : Int := (l.map (·.b)).sum
theorem ZoM {f : SlF} {l : List Pc} (hl : ZG l) : ∀ i, i ≤ l.length → ∀ c d : Int,
  ∃ N B : Int, Run T (Res [.cell 2 true 2] (.agg [.int .i64 N, .int .i64 B])) (.inLoop Xq56.b0 :: Xq56.k0) (mkE 31 [(0, pcA f l), (2, .ptr 0 2 0), (3, .ptr 1 2 0), (4, .int .i64 i)]) [.cells false [.int .i64 0, .int .i64 0], .cells false [.int .i64 c, .int .i64 d]] ∧
   (c + ZeZ (l.drop i) ≤ 1000000000000000 → d + ZdZ (l.drop i) ≤ 1000000000000000 → 0 ≤ c → 0 ≤ d → (∀ p ∈ l, 0 ≤ p.n ∧ 0 ≤ p.b) → N = c + ZeZ (l.drop i) ∧ B = d + ZdZ (l.drop i)) := by
 refine Zat (fun c d => ⟨c, d, ?_, ?_⟩) fun i hi ih c d => ?_
 ·rw [Zb, Za Xq56.b0.eq_1]
  simp (maxSteps := 2000000) only [go_sem, Za Xq56.c0.eq_1, Xq56.k0, Int.lt_irrefl]
 ·intro _ _ _ _ _
  rw [List.drop_length]
  exact ⟨(Int.add_zero _).symm, (Int.add_zero _).symm⟩
 ·have w1 := Zj (show i < 9223372036854775807 by have : l.length < _ := hl; omega)
  obtain ⟨N, B, h1, h2⟩ := ih (IntKind.i64.wrap (c + l[i].n)) (IntKind.i64.wrap (d + l[i].b))
  refine ⟨N, B, ?_, fun a1 a2 a3 a4 a5 => ?_⟩
  ·rw [Zb, Za Xq56.b0.eq_1]
   simp (maxSteps := 2000000) only [go_sem, hi, w1]
   exact h1
  ·rw [List.drop_eq_getElem_cons hi] at a1 a2 ⊢
   have nn : ∀ (m : List Pc), (∀ p ∈ m, 0 ≤ p.n ∧ 0 ≤ p.b) → 0 ≤ ZeZ m ∧ 0 ≤ ZdZ m := by
    intro m
    induction m with
    | nil => intro _; exact ⟨Int.le_refl _, Int.le_refl _⟩
    | cons p m ih =>
     intro h
     have h1 := h p List.mem_cons_self
     have h2 := ih fun q hq => h q (List.mem_cons_of_mem _ hq)
     simp only [ZeZ, ZdZ, List.map_cons, List.sum_cons] at h2 ⊢
     omega
   obtain ⟨b1, b2⟩ := a5 _ (List.getElem_mem hi)
   obtain ⟨b3, b4⟩ := nn (l.drop (i + 1)) fun p hp => a5 p (List.mem_of_mem_drop hp)
   have eN : ZeZ (l[i] :: l.drop (i + 1)) = l[i].n + ZeZ (l.drop (i + 1)) := by simp only [ZeZ, List.map_cons, List.sum_cons]
   have eB : ZdZ (l[i] :: l.drop (i + 1)) = l[i].b + ZdZ (l.drop (i + 1)) := by simp only [ZdZ, List.map_cons, List.sum_cons]
   rw [eN] at a1 ⊢
   rw [eB] at a2 ⊢
   have w2 : IntKind.i64.wrap (c + l[i].n) = c + l[i].n := Zi (by omega) (by omega)
   have w3 : IntKind.i64.wrap (d + l[i].b) = d + l[i].b := Zi (by omega) (by omega)
   rw [w2, w3] at h2
   have := h2 (by omega) (by omega) (by omega) (by omega) a5
   omega
structure SmallL (l : List Pc) : Prop where
 n : l.length ≤ 100000
 p : ∀ p ∈ l, 0 ≤ p.n ∧ 0 ≤ p.b
 tn : ZeZ l ≤ 1000000000000000
 tb : ZdZ l ≤ 1000000000000000
theorem Zmz {f : SlF} {l : List Pc} (h : SmallL l) {lv : List Nat} {σ : Sto} {R : Zs} : Cw T true i_Xq56 [pcA f l] lv σ R ↔ R (.agg [.int .i64 (ZeZ l), .int .i64 (ZdZ l)]) σ := by
 refine Zt T_Xq56 (by simp only [go_sem]) (by simp) ?_; rw [Za Xq56.main.eq_1]
 obtain ⟨N, B, h1, h2⟩ := ZoM (f := f) (l := l) (by have := h.n; show l.length < _; omega) 0 (by omega) 0 0
 obtain ⟨rfl, rfl⟩ := h2 (by rw [List.drop_zero, Int.zero_add]; exact h.tn) (by rw [List.drop_zero, Int.zero_add]; exact h.tb) (by omega) (by omega) h.p
 simp only [List.drop_zero, Int.zero_add] at h1
 simp (maxSteps := 2000000) only [go_sem]
 exact h1
@[go_sem] theorem ZhT {f : SlF} {l : List Pc} (h : SmallL l) {Q : Zg} {k : List Item} {os : List AOper} {d : Option Nat} {e : Env} {σ : Sto} : Zp T Q k os d e σ true i_Xq56 [pcA f l] ↔ Run T Q (.ops os :: k) (put e d (.agg [.int .i64 (ZeZ l), .int .i64 (ZdZ l)])) σ := Zmz h


abbrev ZgX (f : SlF) (z : List (Nat × Nat)) : AVal := sv 2 f (z.map fun p => .agg [.int .u8 (p.1 : Int), .int .u8 (p.2 : Int)])
def mkP (p : Nat × Nat) : Pc := ⟨(4 : Int) ^ (p.1 % 4) + ((p.1 / 16 : Nat) : Int), (p.2 : Int) * 40⟩
def Zcz (z : List (Nat × Nat)) : List Pc := (z.take 60).map mkP
@[go_sem] theorem Ztk {a b : AVal} {σ : Sto} : Zcr 2 1 (.fptr [a, b]) (.int .i64 0) σ = some (.fptr [a, b], σ) := rfl
@[go_sem] theorem Ztl {a b : AVal} {σ : Sto} : Zcr 2 1 (.fptr [a, b]) (.int .i64 1) σ = some (.fptr [b], σ) := rfl
theorem made_in {f : SlF} {z : List (Nat × Nat)} {i : Nat} {X : AObj} {t3 : AVal} {Q : Zg} (hi : i < z.length)
  (next : Run T Q (.inLoop Xq64.b1 :: Xq64.k1 1) (mkE 52 [(0, ZgX f z), (3, t3), (4, .int .i64 i), (5, .int .i64 (4 ^ (z[i].1 % 4) : Nat)), (6, .int .i64 (z[i].1 % 4 : Nat))]) [X]) :
  ∀ k, k ≤ z[i].1 % 4 → Run T Q (.inLoop Xq64.b1 :: Xq64.k1 1) (mkE 52 [(0, ZgX f z), (3, t3), (4, .int .i64 i), (5, .int .i64 (4 ^ k : Nat)), (6, .int .i64 k)]) [X] := by
 refine Zat next fun k hk ih => ?_
 have hlt : ((k : Nat) : Int) < ((z[i].1 % 4 : Nat) : Int) := by omega
 have h3 : ((z[i].1 : Nat) : Int).tmod 4 = ((z[i].1 % 4 : Nat) : Int) := rfl
 have w0 : IntKind.i64.wrap ((z[i].1 % 4 : Nat) : Int) = ((z[i].1 % 4 : Nat) : Int) := Zbc (by omega)
 have w1 := Zj (show k < 9223372036854775807 by omega)
 have hk4 : k < 4 := by omega
 have w2 : IntKind.i64.wrap (((4 ^ k : Nat) : Int) * 4) = ((4 ^ (k + 1) : Nat) : Int) := by
  rcases (by omega : k = 0 ∨ k = 1 ∨ k = 2 ∨ k = 3) with rfl | rfl | rfl | rfl <;> decide
 rw [Zb, Za Xq64.b1.eq_1]
 simp (maxSteps := 2000000) only [go_sem, hi, h3, w0, hlt, w1, w2, Za Xq64.c0.eq_1, Za Xq64.c1.eq_1, Za Xq64.c2.eq_1, Xq64.k0, Xq64.k1]
 exact ih

theorem Zr1 {p : Nat × Nat} (h1 : p.1 < 256) (h2 : p.2 < 256) : IntKind.i64.wrap (((4 ^ (p.1 % 4) : Nat) : Int) + IntKind.i64.wrap (IntKind.u8.wrap (((p.1 : Nat) : Int).tdiv 16))) = (mkP p).n ∧ IntKind.i64.wrap (IntKind.i64.wrap ((p.2 : Nat) : Int) * 40) = (mkP p).b := by
 have e1 : ((p.1 : Nat) : Int).tdiv 16 = ((p.1 / 16 : Nat) : Int) := rfl
 have e2 : 4 ^ (p.1 % 4) ≤ 64 := by
  rcases (by omega : p.1 % 4 = 0 ∨ p.1 % 4 = 1 ∨ p.1 % 4 = 2 ∨ p.1 % 4 = 3) with h | h | h | h <;> rw [h] <;> decide
 rw [e1, Zp0 (by omega) (by omega), Zbc (by omega), Zbc (by omega)]
 unfold mkP
 refine ⟨?_, ?_⟩
 ·show _ = (4 : Int) ^ (p.1 % 4) + ((p.1 / 16 : Nat) : Int)
  have e3 : (4 : Int) ^ (p.1 % 4) = ((4 ^ (p.1 % 4) : Nat) : Int) := by rw [Int.natCast_pow]; rfl
  rw [e3]
  generalize 4 ^ (p.1 % 4) = q at *
  rw [Zi (by omega) (by omega)]
 ·rw [Zi (by omega) (by omega)]
theorem ZmA {f : SlF} {z : List (Nat × Nat)} (hz : z.length < 9223372036854775808) (hb : ∀ p ∈ z, p.1 < 256 ∧ p.2 < 256) : ∀ (c i : Nat), c + i = min 60 z.length → 
  Run T (Res [.tmp 2] (pcA .lst (Zcz z))) (.inLoop Xq64.b0 :: Xq64.k0) (mkE 52 [(0, ZgX f z), (3, pcR 0 ((z.take i).map mkP)), (4, .int .i64 i)]) [pcO ((z.take i).map mkP)] := by

 intro c
 induction c with
 | zero =>
  intro i e
  have hm : (z.take i).map mkP = Zcz z := by
   unfold Zcz
   congr 1
   rcases Nat.le_total 60 z.length with h | h
   ·rw [show i = 60 by omega]
   ·rw [List.take_of_length_le (by omega), List.take_of_length_le h]
  rw [hm]
  by_cases h : i < z.length
  ·have h' : ¬ ((i : Nat) : Int) < 60 := by omega
   rw [Zb, Za Xq64.b0.eq_1]
   simp (maxSteps := 2000000) only [go_sem, h, h', Za Xq64.c0.eq_1, Za Xq64.c1.eq_1, Za Xq64.c2.eq_1, Xq64.k0, Xq64.k1]
   rw [ZiG (n := 62) (o := 0) (l := Zcz z) rfl]
  ·rw [Zb, Za Xq64.b0.eq_1]
   simp (maxSteps := 2000000) only [go_sem, h, Za Xq64.c0.eq_1, Za Xq64.c1.eq_1, Za Xq64.c2.eq_1, Xq64.k0, Xq64.k1]
   rw [ZiG (n := 62) (o := 0) (l := Zcz z) rfl]
 | succ c ih =>
  intro i e
  have hi : i < z.length := by omega
  have h' : ((i : Nat) : Int) < 60 := by omega
  have w1 := Zj (show i < 9223372036854775807 by omega)
  obtain ⟨b1, b2⟩ := hb _ (List.getElem_mem hi)
  obtain ⟨m1, m2⟩ := Zr1 b1 b2
  have ih' := ih (i + 1) (by omega)
  have ht : (z.take (i + 1)).map mkP = (z.take i).map mkP ++ [mkP z[i]] := by rw [List.take_succ_eq_append_getElem hi, List.map_append]; rfl
  rw [ht] at ih'
  have hin := made_in (f := f) (z := z) (i := i) (X := pcO ((z.take i).map mkP)) (t3 := pcR 0 ((z.take i).map mkP)) (Q := Res [.tmp 2] (pcA .lst (Zcz z))) hi ?_ 0 (Nat.zero_le _)
  ·rw [Zb, Za Xq64.b0.eq_1]
   simp (maxSteps := 2000000) only [go_sem, hi, h']
   exact hin
  ·have hlt : ¬ ((z[i].1 % 4 : Nat) : Int) < ((z[i].1 % 4 : Nat) : Int) := Int.lt_irrefl _
   have h3 : ((z[i].1 : Nat) : Int).tmod 4 = ((z[i].1 % 4 : Nat) : Int) := rfl
   have w0 : IntKind.i64.wrap ((z[i].1 % 4 : Nat) : Int) = ((z[i].1 % 4 : Nat) : Int) := Zbc (by omega)
   have hl : ((z.take i).map mkP).length ≤ 1000000 := by rw [List.length_map, List.length_take]; omega
   generalize (z.take i).map mkP = D at *
   rw [Zb, Za Xq64.b1.eq_1]
   simp (maxSteps := 2000000) only [go_sem, hi, h3, w0, hlt, Za Xq64.c0.eq_1, Za Xq64.c1.eq_1, Za Xq64.c2.eq_1, Xq64.k0, Xq64.k1, Xq64.k1, m1, m2]
   rw [ZoN (X := D) (y := mkP z[i]) rfl rfl hl]
   simp (maxSteps := 2000000) only [go_sem, w1, Za Xq64.c0.eq_1, Za Xq64.c1.eq_1, Za Xq64.c2.eq_1, Xq64.k0, Xq64.k1]
   exact ⟨ZaF (fun _ => rfl) _, ih'⟩
theorem ZmB {f : SlF} {z : List (Nat × Nat)} (hz : z.length < 9223372036854775808) (hb : ∀ p ∈ z, p.1 < 256 ∧ p.2 < 256) {lv : List Nat} {σ : Sto} {R : Zs} : Cw T true i_Xq64 [ZgX f z] lv σ R ↔ R (pcA .lst (Zcz z)) σ := by
 refine Zt T_Xq64 (by simp only [go_sem]) (by simp) ?_; rw [Za Xq64.main.eq_1]
 have h := ZmA (f := f) hz hb (min 60 z.length) 0 (by omega)
 simp (maxSteps := 2000000) only [go_sem]
 exact h
@[go_sem] theorem ZhU {f : SlF} {z : List (Nat × Nat)} (hz : z.length < 9223372036854775808) (hb : ∀ p ∈ z, p.1 < 256 ∧ p.2 < 256) {Q : Zg} {k : List Item} {os : List AOper} {d : Option Nat} {e : Env} {σ : Sto} : Zp T Q k os d e σ true i_Xq64 [ZgX f z] ↔ Run T Q (.ops os :: k) (put e d (pcA .lst (Zcz z))) σ := ZmB hz hb

end Go.Abs
