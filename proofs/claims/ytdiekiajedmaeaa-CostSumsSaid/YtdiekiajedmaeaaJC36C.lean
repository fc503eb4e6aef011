/- Parts of the proof: C36C, C36D, C36E, C36G, C36EX, C36H. -/
import Derived.Test.YtdiekiajedmaeaaJC36A
import Derived.Test.YtdiekiajedmaeaaC36F
import Derived.Test.YtdiekiajedmaeaaAbsVal
import Derived.Test.YtdiekiajedmaeaaJAbsLaw
import Derived.KernelRfl
set_option linter.all false
/- Walks of chapter 36: groups, sums over a group. -/
set_option linter.unusedSimpArgs false
set_option linter.unusedVariables false
set_option maxRecDepth 100000
set_option maxHeartbeats 4000000
namespace Go.Abs
open Go
attribute [local go_sem_proc] Nat.reduceLT Nat.reduceEqDiff Nat.reduceLeDiff Nat.reduceAdd Nat.reduceSub Nat.reduceMul Int.reduceLT Int.reduceLE Int.reduceEq Int.reduceNeg
attribute [local go_sem_proc ↓] reduceIte

abbrev intsA (f : SlF) (g : List Int) : AVal := sv 1 f (g.map fun i => .int .i64 i)
abbrev grA (f : SlF) (G : List (SlF × List Int)) : AVal := sv 1 f (G.map fun p => sv 1 p.1 (p.2.map fun i => .int .i64 i))
def isG (n : Nat) : Int → List Int → Bool
 | _, [] => true
 | last, i :: g => decide (last < i ∧ i < n) && isG n i g
def isGrp (n : Nat) (g : List Int) : Bool := isG n (-1) g && decide (g ≠ [])
theorem isG_loop {f fg : SlF} {l : List Pc} {g : List Int} (hl : Fits l) (hg : Fits g) : ∀ k, k ≤ g.length → ∀ last : Int,
  Run T (Res [.tmp 4] (.bool (isG l.length last (g.drop k) && decide (g ≠ [])))) (.inLoop X39.b0 :: X39.k0) (mkE 28 [(0, pcA f l), (1, intsA fg g), (5, .int .i64 last), (8, intsA fg g), (9, .int .i64 g.length), (10, .int .i64 k)]) [] := by
 have hg1 : g.length < 9223372036854775807 := hg
 refine up_ind (fun last => ?_) fun k hk ih last => ?_
 ·rw [List.drop_length, isG, Bool.true_and]
  have e : decide (g ≠ []) = decide ((0 : Int) < (g.length : Int)) := by
   cases g with
   | nil => rfl
   | cons a g =>
    have h : (0 : Int) < ((a :: g).length : Int) := by simp only [List.length_cons]; omega
    rw [decide_eq_true h]; rfl
  rw [e]
  rw [run_round, run_unfold X39.b0.eq_1]
  simp (maxSteps := 2000000) only [go_sem, run_unfold X39.c0.eq_1, run_unfold X39.c1.eq_1, X39.k0, Int.lt_irrefl]
 ·have w1 := wrap_succ (show k < 9223372036854775807 by omega)
  have ih' := ih g[k]
  rw [List.drop_eq_getElem_cons hk, isG]
  by_cases h1 : g[k] ≤ last
  ·have e : ¬ (last < g[k] ∧ g[k] < l.length) := by omega
   rw [decide_eq_false e, Bool.false_and, Bool.false_and]
   rw [run_round, run_unfold X39.b0.eq_1]
   simp (maxSteps := 2000000) only [go_sem, hk, h1, run_unfold X39.c0.eq_1, run_unfold X39.c1.eq_1, X39.k0]
  ·by_cases h2 : (l.length : Int) ≤ g[k]
   ·have e : ¬ (last < g[k] ∧ g[k] < l.length) := by omega
    rw [decide_eq_false e, Bool.false_and, Bool.false_and]
    rw [run_round, run_unfold X39.b0.eq_1]
    simp (maxSteps := 2000000) only [go_sem, hk, h1, h2, run_unfold X39.c0.eq_1, run_unfold X39.c1.eq_1, X39.k0]
   ·have e : last < g[k] ∧ g[k] < l.length := by omega
    rw [decide_eq_true e, Bool.true_and]
    rw [run_round, run_unfold X39.b0.eq_1]
    simp (maxSteps := 2000000) only [go_sem, hk, h1, h2, w1, run_unfold X39.c0.eq_1, run_unfold X39.c1.eq_1, X39.k0]
    exact ih'
theorem X39_spec {f fg : SlF} {l : List Pc} {g : List Int} (hl : Fits l) (hg : Fits g) {lv : List Nat} {σ : Sto} {R : Post} : Cw T true i_X39 [pcA f l, intsA fg g] lv σ R ↔ R (.bool (isGrp l.length g)) σ := by
 refine cw_intro T_X39 (by simp only [go_sem]) (by simp) ?_; rw [run_unfold X39.main.eq_1]
 have h := isG_loop (f := f) (fg := fg) hl hg 0 (by omega) (-1)
 simp only [List.drop_zero] at h
 simp (maxSteps := 2000000) only [go_sem]
 exact h
@[go_sem] theorem X39_call {f fg : SlF} {l : List Pc} {g : List Int} (hl : Fits l) (hg : Fits g) {Q : Post3} {k : List Item} {os : List AOper} {d : Option Nat} {e : Env} {σ : Sto} : CallK T Q k os d e σ true i_X39 [pcA f l, intsA fg g] ↔ Run T Q (.ops os :: k) (put e d (.bool (isGrp l.length g))) σ := X39_spec hl hg

theorem isG_mem {n : Nat} : ∀ {g : List Int} {last : Int}, isG n last g = true → ∀ i ∈ g, last < i ∧ i < n
 | [], _, _, i, h => by simp at h
 | j :: g, last, h, i, hi => by
  rw [isG, Bool.and_eq_true, decide_eq_true_eq] at h
  rcases List.mem_cons.1 hi with rfl | hi
  ·exact h.1
  ·have := isG_mem h.2 i hi
   omega
theorem isG_len {n : Nat} : ∀ {g : List Int} {last : Int}, isG n last g = true → -1 ≤ last → (g.length : Int) + last < n ∨ g = []
 | [], _, _, _ => .inr rfl
 | j :: g, last, h, hl => by
  rw [isG, Bool.and_eq_true, decide_eq_true_eq] at h
  rcases isG_len h.2 (by omega) with h1 | rfl
  ·left; simp only [List.length_cons]; omega
  ·left; simp only [List.length_cons, List.length_nil]; omega

def pAt (l : List Pc) (i : Int) : Pc := l.getD i.toNat ⟨0, 0⟩
theorem pAt_get {l : List Pc} {i : Int} (h : 0 ≤ i ∧ i < l.length) : l[i.toNat]'(by omega) = pAt l i := by
 unfold pAt
 rw [List.getD_eq_getElem?_getD, List.getElem?_eq_getElem (by omega)]; rfl
def sumG (v : Pc → Int) (l : List Pc) (g : List Int) : Int := (g.map fun i => v (pAt l i)).sum
theorem sumG_cons {v : Pc → Int} {l : List Pc} {i : Int} {g : List Int} : sumG v l (i :: g) = v (pAt l i) + sumG v l g := by simp only [sumG, List.map_cons, List.sum_cons]
theorem X40_spec {f : SlF} {l : List Pc} {i : Int} (h : 0 ≤ i ∧ i < l.length) {lv : List Nat} {σ : Sto} {R : Post} : Cw T true i_X40 [.int .i64 i, .fptr [pcA f l]] lv σ R ↔ R (.int .i64 (pAt l i).n) σ := by
 refine cw_intro T_X40 (by simp only [go_sem]) (by simp) ?_; rw [run_unfold X40.main.eq_1]
 have a1 := fun {σ : Sto} => @iaddrV_int σ 2 f Pc (fun p => .agg [.int .i64 p.n, .int .i64 p.b]) l .i64 i h.1 (by omega)
 simp only [pAt_get h] at a1
 simp (maxSteps := 2000000) only [go_sem, a1]
@[go_sem] theorem X40_call {f : SlF} {l : List Pc} {i : Int} (h : 0 ≤ i ∧ i < l.length) {Q : Post3} {k : List Item} {os : List AOper} {d : Option Nat} {e : Env} {σ : Sto} : CallK T Q k os d e σ true i_X40 [.int .i64 i, .fptr [pcA f l]] ↔ Run T Q (.ops os :: k) (put e d (.int .i64 (pAt l i).n)) σ := X40_spec h

theorem X41_spec {f : SlF} {l : List Pc} {i : Int} (h : 0 ≤ i ∧ i < l.length) {lv : List Nat} {σ : Sto} {R : Post} : Cw T true i_X41 [.int .i64 i, .fptr [pcA f l]] lv σ R ↔ R (.int .i64 (pAt l i).b) σ := by
 refine cw_intro T_X41 (by simp only [go_sem]) (by simp) ?_; rw [run_unfold X41.main.eq_1]
 have a1 := fun {σ : Sto} => @iaddrV_int σ 2 f Pc (fun p => .agg [.int .i64 p.n, .int .i64 p.b]) l .i64 i h.1 (by omega)
 simp only [pAt_get h] at a1
 simp (maxSteps := 2000000) only [go_sem, a1]
@[go_sem] theorem X41_call {f : SlF} {l : List Pc} {i : Int} (h : 0 ≤ i ∧ i < l.length) {Q : Post3} {k : List Item} {os : List AOper} {d : Option Nat} {e : Env} {σ : Sto} : CallK T Q k os d e σ true i_X41 [.int .i64 i, .fptr [pcA f l]] ↔ Run T Q (.ops os :: k) (put e d (.int .i64 (pAt l i).b)) σ := X41_spec h

abbrev smC1 (f : SlF) (l : List Pc) : AVal := .clo (.func i_X40) [] [.fptr [pcA f l]]
abbrev smC2 (f : SlF) (l : List Pc) : AVal := .clo (.func i_X41) [] [.fptr [pcA f l]]
theorem pAt_mem {l : List Pc} {i : Int} (h : 0 ≤ i ∧ i < l.length) : pAt l i ∈ l := by rw [← pAt_get h]; exact List.getElem_mem _
theorem sumI_loop {f fg : SlF} {l : List Pc} {g : List Int} {fn : FuncId} {v : Pc → Int} (hg : g.length ≤ 100000) (hi : ∀ i ∈ g, 0 ≤ i ∧ i < l.length) (hv : ∀ p ∈ l, 0 ≤ v p ∧ v p ≤ 1000000000)
  (hc : ∀ {i : Int}, 0 ≤ i ∧ i < l.length → ∀ {Q : Post3} {k : List Item} {os : List AOper} {d : Option Nat} {e : Env} {σ : Sto}, CallK T Q k os d e σ true fn [.int .i64 i, .fptr [pcA f l]] ↔ Run T Q (.ops os :: k) (put e d (.int .i64 (v (pAt l i)))) σ) :
  ∀ k, k ≤ g.length → ∀ c : Int, 0 ≤ c → c ≤ k * 1000000000 → c + sumG v l (g.drop k) = sumG v l g →
  Run T (Res [.tmp 4] (.int .i64 (sumG v l g))) (.inLoop X35.b0 :: X35.k0) (mkE 21 [(1, .clo (.func fn) [] [.fptr [pcA f l]]), (5, .int .i64 c), (8, intsA fg g), (9, .int .i64 g.length), (10, .int .i64 k)]) [] := by
 refine up_ind (fun c h0 h1 e => ?_) fun k hk ih c h0 h1 e => ?_
 ·rw [List.drop_length, show sumG v l [] = 0 from rfl, Int.add_zero] at e
  subst e
  rw [run_round, run_unfold X35.b0.eq_1]
  simp (maxSteps := 2000000) only [go_sem, run_unfold X35.c0.eq_1, run_unfold X35.c1.eq_1, X35.k0, Int.lt_irrefl]
 ·rw [List.drop_eq_getElem_cons hk, sumG_cons] at e
  have hr := hi _ (List.getElem_mem hk)
  obtain ⟨v0, v1⟩ := hv _ (pAt_mem hr)
  have w1 := wrap_succ (show k < 9223372036854775807 by omega)
  have w3 : IntKind.i64.wrap (c + v (pAt l g[k])) = c + v (pAt l g[k]) := wrap_i64 (by omega) (by omega)
  have ih' := ih (c + v (pAt l g[k])) (by omega) (by rw [Int.natCast_succ, Int.add_mul]; omega) (by rw [← e, Int.add_assoc])
  have hc' := @hc g[k] hr
  rw [run_round, run_unfold X35.b0.eq_1]
  simp (maxSteps := 2000000) only [go_sem, hk, w1, w3, hc']
  exact ih'
theorem sum1_spec {f fg : SlF} {l : List Pc} {g : List Int} (hg : g.length ≤ 100000) (hi : ∀ i ∈ g, 0 ≤ i ∧ i < l.length) (ho : okAll l) {lv : List Nat} {σ : Sto} {R : Post} : Cw T true i_X35 [intsA fg g, smC1 f l] lv σ R ↔ R (.int .i64 (sumG (·.n) l g)) σ := by
 refine cw_intro T_X35 (by simp only [go_sem]) (by simp) ?_; rw [run_unfold X35.main.eq_1]
 have h := sumI_loop (f := f) (fg := fg) (v := fun p => p.n) hg hi (fun p hp => by have := ho p hp; omega) (fun h => X40_call h) 0 (by omega) 0 (by omega) (by omega) (by rw [List.drop_zero, Int.zero_add])
 simp (maxSteps := 2000000) only [go_sem]
 exact h
theorem sum2_spec {f fg : SlF} {l : List Pc} {g : List Int} (hg : g.length ≤ 100000) (hi : ∀ i ∈ g, 0 ≤ i ∧ i < l.length) (ho : okAll l) {lv : List Nat} {σ : Sto} {R : Post} : Cw T true i_X35 [intsA fg g, smC2 f l] lv σ R ↔ R (.int .i64 (sumG (·.b) l g)) σ := by
 refine cw_intro T_X35 (by simp only [go_sem]) (by simp) ?_; rw [run_unfold X35.main.eq_1]
 have h := sumI_loop (f := f) (fg := fg) (v := fun p => p.b) hg hi (fun p hp => by have := ho p hp; omega) (fun h => X41_call h) 0 (by omega) 0 (by omega) (by omega) (by rw [List.drop_zero, Int.zero_add])
 simp (maxSteps := 2000000) only [go_sem]
 exact h
end Go.Abs
/- Walks of chapter 36: the pieces after merging groups. -/
set_option linter.unusedSimpArgs false
set_option linter.unusedVariables false
set_option maxRecDepth 100000
set_option maxHeartbeats 8000000
namespace Go.Abs
open Go
attribute [local go_sem_proc] Nat.reduceLT Nat.reduceEqDiff Nat.reduceLeDiff Nat.reduceAdd Nat.reduceSub Nat.reduceMul Int.reduceLT Int.reduceLE Int.reduceEq Int.reduceNeg
attribute [local go_sem_proc ↓] reduceIte

def ownA (g : List Int) : AVal := if g = [] then .nils else .list 1 (g.map fun i => .int .i64 i)
abbrev ownO (W : List (List Int)) : AObj := .cells false (W.map ownA)
theorem own_pure {p : Nat → Bool} {g : List Int} : (ownA g).names p = true := by
 unfold ownA
 split
 ·rfl
 ·simp only [AVal.names]
theorem own_eq {f : SlF} {g : List Int} (h : g ≠ []) : intsA f g = ownA g := by
 unfold ownA
 rw [if_neg h]
 cases g with
 | nil => exact absurd rfl h
 | cons a g => cases f <;> rfl
theorem own_one {g : List Int} : (ownA g).one = true := by
 unfold ownA
 split <;> rfl
theorem own_cells {g : List Int} : (ownA g).cells = [ownA g] := by
 unfold ownA
 split <;> rfl
theorem own_fits {g : List Int} : (ownA g).fits 1 = true := by
 unfold ownA
 split <;> rfl
theorem eqn_own {b : Bool} {g : List Int} {σ : Sto} : eqnilV b .sl (ownA g) σ = some (.bool (if g = [] then !b else b), σ) := by
 unfold ownA
 by_cases h : g = []
 ·rw [if_pos h, if_pos h]; rfl
 ·rw [if_neg h, if_neg h]; rfl
def mark (g : List Int) : List (List Int) → List Int → Option (List (List Int))
 | W, [] => some W
 | W, i :: r => if W.getD i.toNat [] = [] then mark g (W.set i.toNat g) r else none
def marks (n : Nat) : List (List Int) → List (SlF × List Int) → Option (List (List Int))
 | W, [] => some W
 | W, p :: G => if isGrp n p.2 = true then (mark p.2 W p.2).bind fun W => marks n W G else none
theorem mark_len {g : List Int} : ∀ {r : List Int} {W W' : List (List Int)}, mark g W r = some W' → W'.length = W.length
 | [], W, W', h => by injection h with h; rw [h]
 | i :: r, W, W', h => by
  unfold mark at h
  split at h
  ·rw [mark_len h, List.length_set]
  ·cases h
def OwnOk (n : Nat) (W : List (List Int)) : Prop := ∀ w ∈ W, w = [] ∨ isGrp n w = true
theorem mark_ok {n : Nat} {g : List Int} (hg : isGrp n g = true) : ∀ {r : List Int} {W W' : List (List Int)}, OwnOk n W → mark g W r = some W' → OwnOk n W'
 | [], W, W', hw, h => by injection h with h; rw [← h]; exact hw
 | i :: r, W, W', hw, h => by
  unfold mark at h
  split at h
  ·refine mark_ok hg (fun w hm => ?_) h
   rcases List.mem_or_eq_of_mem_set hm with hm | rfl
   ·exact hw w hm
   ·exact .inr hg
  ·cases h
abbrev errV : AVal := .tup [.nils, .int .i64 1]
abbrev aS (f : SlF) (l : List Pc) (W : List (List Int)) : Sto := [.cells false [pcA f l], ownO W]
theorem put_map {α : Type} {F : α → AVal} {W : List α} {m : Nat} {g : α} (h : m < W.length) : List.take m (W.map F) ++ [F g] ++ List.drop (m + 1) (W.map F) = (W.set m g).map F := by
 rw [List.map_set, List.set_eq_take_append_cons_drop, if_pos (by rw [List.length_map]; exact h), List.append_assoc]
 rfl
theorem after_in {f fg : SlF} {l : List Pc} {G : List (SlF × List Int)} {g : List Int} {k : Nat} {V : AVal} {f2 : SlF} (hn : l.length ≤ 512) (hG : G.length ≤ 1000000) (hg : g.length ≤ 100000) (hk : k < G.length) (hne : g ≠ []) (hi : ∀ i ∈ g, 0 ≤ i ∧ i < l.length) : ∀ j, j ≤ g.length → ∀ W : List (List Int), W.length = l.length →
  (mark g W (g.drop j) = none → V = errV) →
  (∀ W', mark g W (g.drop j) = some W' → Run T (Res [.tmp 4, .tmp 5] V) (.inLoop X53.b0 :: X53.k0) (mkE 84 [(2, .ptr 0 1 0), (6, .ref 1 l.length 0 l.length 1), (21, grA f2 G), (22, .int .i64 G.length), (23, .int .i64 ((k + 1 : Nat) : Int))]) (aS f l W')) →
  Run T (Res [.tmp 4, .tmp 5] V) (.inLoop X53.b1 :: X53.k1) (mkE 84 [(2, .ptr 0 1 0), (6, .ref 1 l.length 0 l.length 1), (8, intsA fg g), (21, grA f2 G), (22, .int .i64 G.length), (23, .int .i64 k), (31, intsA fg g), (32, .int .i64 g.length), (33, .int .i64 j)]) (aS f l W) := by
 have w0 := wrap_succ (show k < 9223372036854775807 by omega)
 refine up_ind (fun W hW h1 h2 => ?_) fun j hj ih W hW h1 h2 => ?_
 ·rw [List.drop_length] at h1 h2
  have nx := h2 W rfl
  rw [run_round, run_unfold X53.b1.eq_1]
  simp (maxSteps := 2000000) only [go_sem, run_unfold X53.c0.eq_1, run_unfold X53.c1.eq_1, run_unfold X53.c2.eq_1, run_unfold X53.c3.eq_1, run_unfold X53.c4.eq_1, run_unfold X53.c5.eq_1, run_unfold X53.c6.eq_1, X53.k0, X53.k1, X53.k2, Int.lt_irrefl, w0]
  exact nx
 ·have w1 := wrap_succ (show j < 9223372036854775807 by omega)
  rw [List.drop_eq_getElem_cons hj, mark] at h1 h2
  have hr := hi _ (List.getElem_mem hj)
  have hjg := List.getElem?_eq_getElem hj
  obtain ⟨m, hm⟩ := Int.eq_ofNat_of_zero_le hr.1
  have hml : m < l.length := by omega
  have hmW : m < W.length := by omega
  rw [hm, Int.toNat_natCast] at h1 h2
  have hgd : W.getD m [] = W[m] := by rw [List.getD_eq_getElem?_getD, List.getElem?_eq_getElem hmW]; rfl
  rw [hgd] at h1 h2
  by_cases hc : W[m] = []
  ·rw [if_pos hc] at h1 h2
   have ih' := ih (W.set m g) (by rw [List.length_set]; exact hW) h1 h2
   rw [run_round, run_unfold X53.b1.eq_1]
   have hp := put_map (F := ownA) (g := g) hmW
   rw [← own_eq (f := fg) hne] at hp
   simp (maxSteps := 2000000) only [go_sem, hj, hm, hW, hml, hmW, eqn_own, hc, w1, List.length_map, show m + 1 ≤ l.length by omega, hp]
   exact ih'
  ·rw [if_neg hc] at h1 h2
   have hV := h1 rfl
   subst hV
   rw [run_round, run_unfold X53.b1.eq_1]
   simp (maxSteps := 2000000) only [go_sem, hj, hm, hW, hml, hmW, eqn_own, hc, List.length_map]

def flP (D : List Pc) : SlF := if D = [] then .nil else .lst
abbrev outP (D : List Pc) : AObj := .cells true (D.flatMap fun p => [.int .i64 p.n, .int .i64 p.b])
theorem outP_len (D : List Pc) : (D.flatMap fun p => [AVal.int .i64 p.n, .int .i64 p.b]).length = D.length * 2 := flatMap_len (k := 2) (fun _ => rfl) D
theorem snap_outP {n o : Nat} {σ : Sto} {D : List Pc} (hσ : σ[o]? = some (outP D)) : snapA σ (n + 2) (pcR o D) = some (pcA (flP D) D) := by
 have h0 : (pcR o D).pure = false := by simp [AVal.names]
 have hl := outP_len D
 have hp : AVal.pures (D.flatMap fun p => [AVal.int .i64 p.n, .int .i64 p.b]) = true := v_names_flat (fun _ => rfl) D
 rw [snapA, h0]
 have hc := pc_chunk (l := D)
 simp only [Bool.false_eq_true, if_false, hσ, hl, Nat.zero_add, Nat.le_refl, Nat.zero_lt_succ, and_self, if_true, Bool.true_and, List.drop_zero]
 rw [List.take_of_length_le (by rw [hl]; exact Nat.le_refl _), mapM_snapN hp]
 unfold flP
 cases D with
 | nil => rfl
 | cons d D =>
  have e : pcA .lst (d :: D) = pcA (.lst) (d :: D) := rfl
  rw [pcA, sv_lst] at hc
  simp only [List.length_cons] at hc
  simp [hc, pcA, sv_lst]
  injection hc with _ h
theorem app_pcN {o o' : Nat} {σ : Sto} {X : List Pc} {n b : Int} (hσ : σ[o]? = some (outP X)) (hσ' : σ[o']? = some (.cells false [.int .i64 n, .int .i64 b])) (hb : X.length ≤ 1000000) :
  appendV 2 16 (pcR o X) (.ref o' 2 0 1 2) σ = some (pcR o (X ++ [⟨n, b⟩]), σ.set o (outP (X ++ [⟨n, b⟩]))) := by
 have h := appendV_grow (σ := σ) (x := .ref o' 2 0 1 2) (o := o) (k := 2) (m := 1) (bytes := 16) (gen := X.length * 2) (len := X.length) (nl := true) (new := [.int .i64 n, .int .i64 b]) hσ (by simp [rowOf, hσ']) (outP_len X) rfl rfl (by decide) rfl (by simp only [maxBytes]; omega)
 rw [h]
 simp only [pcR, outP, List.length_append, List.length_cons, List.length_nil, List.flatMap_append, List.flatMap_cons, List.flatMap_nil, List.append_nil, Nat.add_mul, Nat.zero_add, Nat.one_mul]
def outS (l : List Pc) : List Pc → List (List Int) → Nat → List Pc
 | p :: ps, g :: ws, i => (if g = [] then [p] else if g.getD 0 0 = (i : Int) then [⟨sumG (·.n) l g, sumG (·.b) l g⟩] else []) ++ outS l ps ws (i + 1)
 | _, _, _ => []
theorem snap_cloP {σ : Sto} {fn : Fn} {v : AVal} (hv : v.pure = true) (hσ : σ[0]? = some (.cells false [v])) : snapA σ 64 (.clo fn [] [.ptr 0 1 0]) = some (.clo fn [] [.fptr [v]]) := by
 have h0 : (AVal.clo fn [] [.ptr 0 1 0]).pure = false := by simp [AVal.names, AVal.namesL]
 have h1 : (AVal.ptr 0 1 0).pure = false := by simp [AVal.names]
 have hp : snapA σ 63 (.ptr 0 1 0) = some (.fptr [v]) := by
  rw [snapA, h1]
  have hm : [v].mapM (snapA σ (61 + 1)) = some [v] := mapM_snapN (by simp only [AVal.namesL, hv, Bool.true_and])
  simp only [Bool.false_eq_true, if_false, hσ, List.length_cons, List.length_nil, Nat.zero_add, if_true, List.drop_zero, hm, Option.map_some]
 rw [snapA, h0]
 simp only [Bool.false_eq_true, if_false, List.mapM_nil, List.mapM_cons, hp, Option.pure_def, Option.bind_eq_bind, Option.bind_some]
theorem after_out {f : SlF} {l : List Pc} {W : List (List Int)} {O : List Pc} (hn : l.length ≤ 512) (ho : okAll l) (hW : W.length = l.length) (hown : OwnOk l.length W) (hO : O.length ≤ 1000) : ∀ i, i ≤ l.length → ∀ D, D ++ outS l (l.drop i) (W.drop i) i = O →
  Run T (Res [.tmp 4, .tmp 5] (.tup [pcA (flP O) O, .int .i64 0])) (.inLoop X53.b2 :: X53.k2) (mkE 84 [(2, .ptr 0 1 0), (6, .ref 1 l.length 0 l.length 1), (11, pcR 2 D), (48, pcA f l), (49, .int .i64 l.length), (50, .int .i64 i)]) [.cells false [pcA f l], ownO W, outP D] := by
 refine up_ind (fun D e => ?_) fun i hi ih D e => ?_
 ·rw [List.drop_length, show outS l [] (W.drop l.length) l.length = [] from by cases W.drop l.length <;> rfl, List.append_nil] at e
  subst e
  rw [run_round, run_unfold X53.b2.eq_1]
  simp (maxSteps := 2000000) only [go_sem, run_unfold X53.c0.eq_1, run_unfold X53.c1.eq_1, run_unfold X53.c2.eq_1, run_unfold X53.c3.eq_1, run_unfold X53.c4.eq_1, run_unfold X53.c5.eq_1, run_unfold X53.c6.eq_1, X53.k0, X53.k1, X53.k2, Int.lt_irrefl]
  rw [snap_outP (n := 61) (o := 2) (D := D) rfl]
  rfl
 ·have hiW : i < W.length := by omega
  rw [List.drop_eq_getElem_cons hi, List.drop_eq_getElem_cons hiW, outS] at e
  have w1 := wrap_succ (show i < 9223372036854775807 by omega)
  have hD : D.length ≤ 1000 := by have := congrArg List.length e; simp only [List.length_append] at this; omega
  have i0 : ∀ {g : List Int} {σ : Sto}, g ≠ [] → iaddrV 1 (ownA g) (.int .i64 0) σ = some (.fptr [.int .i64 (g.getD 0 0)], σ) := by
   intro g σ h
   rw [← own_eq (f := .lst) h]
   cases g with
   | nil => exact absurd rfl h
   | cons a g => exact iaddrV_sv (i := 0) (f := .lst) (xs := (a :: g).map fun i => .int .i64 i) rfl
  have hu : ∀ D : List Pc, (AVal.unders 3 (W.map ownA) && AVal.unders 3 (D.flatMap fun p => [AVal.int .i64 p.n, .int .i64 p.b])) = true := fun D => by rw [show AVal.unders 3 (W.map ownA) = true from v_names_map (fun _ => own_pure) W, show AVal.unders 3 (D.flatMap fun p => [AVal.int .i64 p.n, .int .i64 p.b]) = true from v_names_flat (fun _ => rfl) D]; rfl
  by_cases hg : W[i] = []
  ·rw [if_pos hg] at e
   have ih' := ih (D ++ [l[i]]) (by rw [← e, List.append_assoc])
   rw [run_round, run_unfold X53.b2.eq_1]
   simp (maxSteps := 2000000) only [go_sem, hi, hW, hiW, eqn_own, hg, List.length_map]
   rw [app_pcN (X := D) rfl rfl (by omega)]
   simp (maxSteps := 2000000) only [go_sem, w1, run_unfold X53.c0.eq_1, run_unfold X53.c1.eq_1, run_unfold X53.c2.eq_1, run_unfold X53.c3.eq_1, run_unfold X53.c4.eq_1, run_unfold X53.c5.eq_1, run_unfold X53.c6.eq_1, X53.k0, X53.k1, X53.k2]
   exact ⟨hu _, ih'⟩
  ·rw [if_neg hg] at e
   by_cases hh : W[i].getD 0 0 = (i : Int)
   ·rw [if_pos hh] at e
    have ih' := ih (D ++ [⟨sumG (·.n) l W[i], sumG (·.b) l W[i]⟩]) (by rw [← e, List.append_assoc])
    obtain ⟨m1, m2⟩ : (∀ j ∈ W[i], 0 ≤ j ∧ j < l.length) ∧ W[i].length ≤ 100000 := by
     rcases hown _ (List.getElem_mem hiW) with h | h
     ·exact absurd h hg
     ·rw [isGrp, Bool.and_eq_true] at h
      refine ⟨fun j hj => ?_, ?_⟩
      ·have := isG_mem h.1 j hj; omega
      ·rcases isG_len h.1 (by omega) with h | h
       ·omega
       ·exact absurd h hg
    have s1 := fun {lv : List Nat} {σ : Sto} {R : Post} => sum1_spec (f := f) (fg := .lst) m2 m1 ho (lv := lv) (σ := σ) (R := R)
    have s2 := fun {lv : List Nat} {σ : Sto} {R : Post} => sum2_spec (f := f) (fg := .lst) m2 m1 ho (lv := lv) (σ := σ) (R := R)
    rw [own_eq hg] at s1 s2
    have sn : ∀ {σ : Sto}, snapA σ snapDepth (ownA W[i]) = some (ownA W[i]) := fun {σ} => snapA_step own_pure
    have pu : AVal.pures [ownA W[i], smC1 f l] = true := by simp only [AVal.namesL, own_pure, Bool.true_and]; simp (maxSteps := 2000000) only [go_sem]
    have pu2 : AVal.pures [ownA W[i], smC2 f l] = true := by simp only [AVal.namesL, own_pure, Bool.true_and]; simp (maxSteps := 2000000) only [go_sem]
    rw [run_round, run_unfold X53.b2.eq_1]
    simp (maxSteps := 2000000) only [go_sem, hi, hW, hiW, eqn_own, hg, List.length_map, i0 hg, hh]
    refine (callK_live T_X35 (as := [ownA W[i], smC1 f l]) s1 ?_ pu rfl).2 ?_
    ·simp (maxSteps := 2000000) only [go_sem]
     rw [show ∀ σ : Sto, snapA σ 64 (ownA W[i]) = some (ownA W[i]) from fun σ => snapA_step own_pure, snap_cloP sv_pure rfl]
    simp (maxSteps := 2000000) only [go_sem]
    refine (callK_live T_X35 (as := [ownA W[i], smC2 f l]) s2 ?_ pu2 rfl).2 ?_
    ·simp (maxSteps := 2000000) only [go_sem]
     rw [show ∀ σ : Sto, snapA σ 64 (ownA W[i]) = some (ownA W[i]) from fun σ => snapA_step own_pure, snap_cloP sv_pure rfl]
    simp (maxSteps := 2000000) only [go_sem]
    rw [app_pcN (X := D) rfl rfl (by omega)]
    simp (maxSteps := 2000000) only [go_sem, w1, run_unfold X53.c0.eq_1, run_unfold X53.c1.eq_1, run_unfold X53.c2.eq_1, run_unfold X53.c3.eq_1, run_unfold X53.c4.eq_1, run_unfold X53.c5.eq_1, run_unfold X53.c6.eq_1, X53.k0, X53.k1, X53.k2]
    exact ⟨hu _, ih'⟩
   ·rw [if_neg hh, List.nil_append] at e
    have ih' := ih D e
    rw [run_round, run_unfold X53.b2.eq_1]
    simp (maxSteps := 2000000) only [go_sem, hi, hW, hiW, eqn_own, hg, List.length_map, i0 hg, hh, w1, run_unfold X53.c0.eq_1, run_unfold X53.c1.eq_1, run_unfold X53.c2.eq_1, run_unfold X53.c3.eq_1, run_unfold X53.c4.eq_1, run_unfold X53.c5.eq_1, run_unfold X53.c6.eq_1, X53.k0, X53.k1, X53.k2]
    exact ⟨hu _, ih'⟩
end Go.Abs
/- Walks of chapter 36: After, whole. -/
set_option linter.unusedSimpArgs false
set_option linter.unusedVariables false
set_option maxRecDepth 100000
set_option maxHeartbeats 8000000
namespace Go.Abs
open Go
attribute [local go_sem_proc] Nat.reduceLT Nat.reduceEqDiff Nat.reduceLeDiff Nat.reduceAdd Nat.reduceSub Nat.reduceMul Int.reduceLT Int.reduceLE Int.reduceEq Int.reduceNeg
attribute [local go_sem_proc ↓] reduceIte

theorem outS_len {l : List Pc} : ∀ {ps : List Pc} {ws : List (List Int)} {i : Nat}, (outS l ps ws i).length ≤ ps.length
 | [], ws, i => by simp [outS]
 | p :: ps, [], i => by simp [outS]
 | p :: ps, g :: ws, i => by
  have ih := outS_len (l := l) (ps := ps) (ws := ws) (i := i + 1)
  rw [outS, List.length_append, List.length_cons]
  split
  ·simp; omega
  ·split
   ·simp; omega
   ·simp; omega
theorem after_groups {f fg : SlF} {l : List Pc} {G : List (SlF × List Int)} {V : AVal} (hn : l.length ≤ 512) (ho : okAll l) (hG : G.length ≤ 1000000) (hGf : ∀ p ∈ G, Fits p.2) : ∀ k, k ≤ G.length → ∀ W : List (List Int), W.length = l.length → OwnOk l.length W →
  (marks l.length W (G.drop k) = none → V = errV) → (∀ W', marks l.length W (G.drop k) = some W' → V = .tup [pcA (flP (outS l l W' 0)) (outS l l W' 0), .int .i64 0]) →
  Run T (Res [.tmp 4, .tmp 5] V) (.inLoop X53.b0 :: X53.k0) (mkE 84 [(2, .ptr 0 1 0), (6, .ref 1 l.length 0 l.length 1), (21, grA fg G), (22, .int .i64 G.length), (23, .int .i64 k)]) (aS f l W) := by
 have hl : Fits l := by show l.length < _; omega
 refine up_ind (fun W hW hown h1 h2 => ?_) fun k hk ih W hW hown h1 h2 => ?_
 ·rw [List.drop_length] at h1 h2
  have hV := h2 W rfl
  subst hV
  have hout := after_out (f := f) (O := outS l l W 0) hn ho hW hown (by have := outS_len (l := l) (ps := l) (ws := W) (i := 0); omega) 0 (by omega) [] rfl
  rw [run_round, run_unfold X53.b0.eq_1]
  simp (maxSteps := 2000000) only [go_sem, run_unfold X53.c0.eq_1, run_unfold X53.c1.eq_1, run_unfold X53.c2.eq_1, run_unfold X53.c3.eq_1, run_unfold X53.c4.eq_1, run_unfold X53.c5.eq_1, run_unfold X53.c6.eq_1, X53.k0, X53.k1, X53.k2, Int.lt_irrefl]
  exact hout
 ·rw [List.drop_eq_getElem_cons hk, marks] at h1 h2
  have hg := hGf _ (List.getElem_mem hk)
  have hc := @X39_call f G[k].1 l G[k].2 hl hg
  cases hgr : isGrp l.length G[k].2
  ·rw [if_neg (by rw [hgr]; decide)] at h1
   have hV := h1 rfl
   subst hV
   rw [run_round, run_unfold X53.b0.eq_1]
   simp (maxSteps := 2000000) only [go_sem, hk, hc, hgr]
  ·rw [if_pos hgr] at h1 h2
   have hgr' := hgr
   rw [isGrp, Bool.and_eq_true, decide_eq_true_eq] at hgr'
   obtain ⟨g1, g2⟩ := hgr'
   have hin := after_in (f := f) (fg := G[k].1) (f2 := fg) (l := l) (G := G) (g := G[k].2) (k := k) (V := V) hn hG (by
    rcases isG_len g1 (by omega) with h | h
    ·omega
    ·exact absurd h g2) hk g2 (fun i hi => by have := isG_mem g1 i hi; omega) 0 (by omega) W hW (fun h => h1 (by rw [List.drop_zero] at h; rw [h]; rfl)) (fun W' hm => ?_)
   ·rw [run_round, run_unfold X53.b0.eq_1]
    simp (maxSteps := 2000000) only [go_sem, hk, hc, hgr]
    exact hin
   ·rw [List.drop_zero] at hm
    rw [hm] at h1 h2
    exact ih W' (by rw [mark_len hm]; exact hW) (mark_ok hgr hown hm) h1 h2
def afterO (l : List Pc) (G : List (SlF × List Int)) : Option (List Pc) := if validB l = true then (marks l.length (List.replicate l.length []) G).map fun W => outS l l W 0 else none
def afterV (l : List Pc) (G : List (SlF × List Int)) : AVal := match afterO l G with
 | none => errV
 | some O => .tup [pcA (flP O) O, .int .i64 0]
theorem mk_own {σ : Sto} {n : Nat} (h : n ≤ 1000000) : mksliceV 1 24 [.nils] (.int .i64 n) (.int .i64 n) σ = some (.ref σ.length n 0 n 1, σ ++ [.cells false (List.replicate n .nils)]) := by
 have e : ∀ n : Nat, (List.replicate n [AVal.nils]).flatten = List.replicate n .nils := by
  intro n
  induction n with
  | zero => rfl
  | succ n ih => rw [List.replicate_succ, List.flatten_cons, ih]; rfl
 have e2 : IntKind.i64.max = 9223372036854775807 := by decide
 simp only [mksliceV, e, e2, Int.toNat_natCast, Nat.mul_one]
 rw [if_pos ⟨by omega, by omega, by simp only [maxBytes]; omega, by omega⟩]
theorem X53_spec {f fg : SlF} {l : List Pc} {G : List (SlF × List Int)} (hl : Fits l) (hG : G.length ≤ 1000000) (hGf : ∀ p ∈ G, Fits p.2) {lv : List Nat} {σ : Sto} {R : Post} : Cw T true i_X53 [pcA f l, grA fg G] lv σ R ↔ R (afterV l G) σ := by
 refine cw_intro T_X53 (by simp only [go_sem]) (by simp) ?_; rw [run_unfold X53.main.eq_1]
 cases hv : validB l
 ·have e : afterV l G = errV := by unfold afterV afterO; rw [if_neg (by rw [hv]; decide)]
  rw [e]
  simp (maxSteps := 2000000) only [go_sem, X45_call hl, hv]
 ·obtain ⟨hn, ho⟩ := validB_ok.1 hv
  have hgs := after_groups (f := f) (fg := fg) (V := afterV l G) hn ho hG hGf 0 (by omega) (List.replicate l.length []) (by simp) (fun w hw => .inl (List.mem_replicate.1 hw).2) (fun h => by unfold afterV afterO; rw [if_pos hv]; rw [List.drop_zero] at h; rw [h]; rfl) (fun W' h => by unfold afterV afterO; rw [if_pos hv]; rw [List.drop_zero] at h; rw [h]; rfl)
  have e : (List.replicate l.length ([] : List Int)).map ownA = List.replicate l.length AVal.nils := by rw [List.map_replicate]; rfl
  simp only [aS, ownO, e] at hgs
  simp (maxSteps := 2000000) only [go_sem, X45_call hl, hv, mk_own (show l.length ≤ 1000000 by omega)]
  exact hgs
@[go_sem] theorem X53_call {f fg : SlF} {l : List Pc} {G : List (SlF × List Int)} (hl : Fits l) (hG : G.length ≤ 1000000) (hGf : ∀ p ∈ G, Fits p.2) {Q : Post3} {k : List Item} {os : List AOper} {d : Option Nat} {e : Env} {σ : Sto} : CallK T Q k os d e σ true i_X53 [pcA f l, grA fg G] ↔ Run T Q (.ops os :: k) (put e d (afterV l G)) σ := X53_spec hl hG hGf


def getO (o : Option (List Pc)) : List Pc := o.getD []
def errO (o : Option (List Pc)) : Int := if o.isSome = true then 0 else 1
theorem afterV_eq {l : List Pc} {G : List (SlF × List Int)} : afterV l G = .tup [pcA (flP (getO (afterO l G))) (getO (afterO l G)), .int .i64 (errO (afterO l G))] := by
 unfold afterV
 cases afterO l G <;> rfl
theorem getO_len {l : List Pc} {G : List (SlF × List Int)} : (getO (afterO l G)).length ≤ 512 := by
 unfold afterO
 by_cases hv : validB l = true
 ·rw [if_pos hv]
  have := (validB_ok.1 hv).1
  cases h : marks l.length (List.replicate l.length []) G with
  | none => simp [getO]
  | some W =>
   have := outS_len (l := l) (ps := l) (ws := W) (i := 0)
   show (outS l l W 0).length ≤ 512
   omega
 ·rw [if_neg hv]; simp [getO]
theorem afterL_loop {fO : SlF} {O : List Pc} {e : Int} (hO : O.length ≤ 512) : ∀ i, i ≤ O.length → ∀ D, D ++ O.drop i = O →
  Run T (Res [.cell 4 true 4] (.agg [.nils, pcA (flP O) O, .int .i64 0, .int .i64 e])) (.inLoop X56.b0 :: X56.k0) (mkE 41 [(4, .ptr 0 4 0), (5, pcA fO O), (7, .ptr 2 4 0), (8, .int .i64 i)]) [.cells false [.nils, .nils, .int .i64 0, .int .i64 0], outP D, .cells false [.nils, pcR 1 D, .int .i64 0, .int .i64 e]] := by
 refine up_ind (fun D he => ?_) fun i hi ih D he => ?_
 ·rw [List.drop_length, List.append_nil] at he
  subst he
  rw [run_round, run_unfold X56.b0.eq_1]
  simp (maxSteps := 2000000) only [go_sem, run_unfold X56.c0.eq_1, X56.k0, Int.lt_irrefl]
  rw [snap_outP (n := 61) (o := 1) (D := D) rfl]
  rfl
 ·rw [List.drop_eq_getElem_cons hi] at he
  have w1 := wrap_succ (show i < 9223372036854775807 by omega)
  have hD : D.length ≤ 512 := by have := congrArg List.length he; simp only [List.length_append, List.length_cons] at this; omega
  have ih' := ih (D ++ [O[i]]) (by rw [List.append_assoc]; exact he)
  have hu : ∀ D : List Pc, AVal.unders 3 (D.flatMap fun p => [AVal.int .i64 p.n, .int .i64 p.b]) = true := fun D => v_names_flat (fun _ => rfl) D
  rw [run_round, run_unfold X56.b0.eq_1]
  simp (maxSteps := 2000000) only [go_sem, hi, w1]
  rw [app_pcN (X := D) rfl rfl (by omega)]
  simp (maxSteps := 2000000) only [go_sem, w1, run_unfold X56.c0.eq_1, X56.k0]
  exact ⟨hu _, ih'⟩
theorem X56_spec {f fg : SlF} {l : List Pc} {G : List (SlF × List Int)} (hl : l.length ≤ 100000) (hG : G.length ≤ 1000000) (hGf : ∀ p ∈ G, Fits p.2) {lv : List Nat} {σ : Sto} {R : Post} : Cw T true i_X56 [pcA f l, grA fg G] lv σ R ↔ R (.agg [.nils, pcA (flP (getO (afterO l G))) (getO (afterO l G)), .int .i64 0, .int .i64 (errO (afterO l G))]) σ := by
 refine cw_intro T_X56 (by simp only [go_sem]) (by simp) ?_; rw [run_unfold X56.main.eq_1]
 have hf : Fits l := by show l.length < _; omega
 have ho := getO_len (l := l) (G := G)
 have hc := @X53_call .lst fg l G hf hG hGf
 rw [afterV_eq] at hc
 generalize getO (afterO l G) = O at *
 generalize errO (afterO l G) = e0 at *
 have hal := afterL_loop (fO := flP O) (O := O) (e := e0) ho 0 (by omega) [] rfl
 simp (maxSteps := 2000000) only [go_sem, X48_call hl, hc]
 exact hal
@[go_sem] theorem X56_call {f fg : SlF} {l : List Pc} {G : List (SlF × List Int)} (hl : l.length ≤ 100000) (hG : G.length ≤ 1000000) (hGf : ∀ p ∈ G, Fits p.2) {Q : Post3} {k : List Item} {os : List AOper} {d : Option Nat} {e : Env} {σ : Sto} : CallK T Q k os d e σ true i_X56 [pcA f l, grA fg G] ↔ Run T Q (.ops os :: k) (put e d (.agg [.nils, pcA (flP (getO (afterO l G))) (getO (afterO l G)), .int .i64 0, .int .i64 (errO (afterO l G))])) σ := X56_spec hl hG hGf

end Go.Abs
/- Chapter 36: merging a group keeps the sums. No program in sight. -/
set_option linter.unusedSimpArgs false
set_option linter.unusedVariables false
set_option maxRecDepth 100000
set_option maxHeartbeats 4000000
namespace Go.Abs
open Go

def totV (v : Pc → Int) (l : List Pc) : Int := (l.map v).sum
theorem totV_cons {v : Pc → Int} {p : Pc} {l : List Pc} : totV v (p :: l) = v p + totV v l := by simp only [totV, List.map_cons, List.sum_cons]
theorem totV_append {v : Pc → Int} : ∀ {a b : List Pc}, totV v (a ++ b) = totV v a + totV v b
 | [], b => by simp [totV]
 | p :: a, b => by rw [List.cons_append, totV_cons, totV_cons, totV_append (a := a), Int.add_assoc]
def fromG (g : List Int) (i : Nat) : List Int := g.filter fun j => decide ((i : Int) ≤ j)
theorem fromG_in {n i : Nat} : ∀ {g : List Int} {last : Int}, isG n last g = true → (i : Int) ∈ g → fromG g i = (i : Int) :: fromG g (i + 1)
 | j :: g, last, h, hi => by
  rw [isG, Bool.and_eq_true] at h
  unfold fromG
  rcases List.mem_cons.1 hi with e | hi'
  ·subst e
   have h2 := fun k hk => isG_mem h.2 k hk
   rw [List.filter_cons_of_pos (by simp), List.filter_cons_of_neg (by simp; omega)]
   congr 1
   refine List.filter_congr fun k hk => ?_
   have := (h2 k hk).1
   have e1 : (i : Int) ≤ k := by omega
   have e2 : ((i + 1 : Nat) : Int) ≤ k := by omega
   rw [decide_eq_true e1, decide_eq_true e2]
  ·have hj := (isG_mem h.2 _ hi').1
   rw [List.filter_cons_of_neg (by simp; omega), List.filter_cons_of_neg (by simp; omega)]
   exact fromG_in h.2 hi'
theorem fromG_out {i : Nat} {g : List Int} (hi : (i : Int) ∉ g) : fromG g i = fromG g (i + 1) := by
 refine List.filter_congr fun k hk => ?_
 have hne : k ≠ (i : Int) := fun e => hi (e ▸ hk)
 by_cases h : (i : Int) ≤ k
 ·have h2 : ((i + 1 : Nat) : Int) ≤ k := by omega
  rw [decide_eq_true h, decide_eq_true h2]
 ·have h2 : ¬ ((i + 1 : Nat) : Int) ≤ k := by omega
  rw [decide_eq_false h, decide_eq_false h2]
theorem fromG_end {n : Nat} {g : List Int} {last : Int} (h : isG n last g = true) : fromG g n = [] := by
 refine List.filter_eq_nil_iff.2 fun k hk => ?_
 have := (isG_mem h k hk).2
 simp; omega
theorem fromG_all {n : Nat} {g : List Int} (h : isG n (-1) g = true) : fromG g 0 = g := by
 refine List.filter_eq_self.2 fun k hk => ?_
 have := (isG_mem h k hk).1
 simp; omega
theorem head_least {n : Nat} {g : List Int} {last : Int} (h : isG n last g = true) : ∀ i ∈ g, g.getD 0 0 ≤ i := by
 cases g with
 | nil => intro i hi; simp at hi
 | cons j g =>
  intro i hi
  rw [isG, Bool.and_eq_true] at h
  show j ≤ i
  rcases List.mem_cons.1 hi with rfl | hi
  ·exact Int.le_refl _
  ·have := (isG_mem h.2 i hi).1; omega
theorem head_mem {g : List Int} (h : g ≠ []) : g.getD 0 0 ∈ g := by
 cases g with
 | nil => exact absurd rfl h
 | cons j g => exact List.mem_cons_self
def OwnIs (n : Nat) (g : List Int) (W : List (List Int)) : Prop := W.length = n ∧ ∀ i : Nat, i < n → W.getD i [] = if (i : Int) ∈ g then g else []
theorem mark_is {n : Nat} {g : List Int} : ∀ {r : List Int} {W : List (List Int)} {last : Int}, isG n last r = true → -1 ≤ last → W.length = n → (∀ i : Nat, last < i → W.getD i [] = []) →
  ∃ W', mark g W r = some W' ∧ W'.length = n ∧ ∀ i : Nat, i < n → W'.getD i [] = if (i : Int) ∈ r then g else W.getD i []
 | [], W, last, _, _, hl, _ => ⟨W, rfl, hl, fun i _ => by simp⟩
 | j :: r, W, last, h, h1, hl, hw => by
  rw [isG, Bool.and_eq_true, decide_eq_true_eq] at h
  obtain ⟨⟨a1, a2⟩, a3⟩ := h
  obtain ⟨m, rfl⟩ := Int.eq_ofNat_of_zero_le (show 0 ≤ j by omega)
  obtain ⟨W', w1, w2, w3⟩ := mark_is (g := g) (W := W.set m g) a3 (by omega) (by rw [List.length_set]; exact hl) (fun i hi => by
   have hne : m ≠ i := by omega
   rw [List.getD_eq_getElem?_getD, List.getElem?_set, if_neg hne, ← List.getD_eq_getElem?_getD]
   exact hw i (by omega))
  refine ⟨W', ?_, w2, fun i hi => ?_⟩
  ·rw [mark, Int.toNat_natCast, if_pos (hw m (by omega))]
   exact w1
  ·rw [w3 i hi]
   by_cases hr : (i : Int) ∈ r
   ·rw [if_pos hr, if_pos (List.mem_cons_of_mem _ hr)]
   ·rw [if_neg hr]
    by_cases e : m = i
    ·subst e
     rw [if_pos List.mem_cons_self, List.getD_eq_getElem?_getD, List.getElem?_set, if_pos rfl, if_pos (by omega)]; rfl
    ·have hne : ¬ (i : Int) ∈ ((m : Int) :: r) := by
      intro hm
      rcases List.mem_cons.1 hm with h | h
      ·omega
      ·exact hr h
     rw [if_neg hne, List.getD_eq_getElem?_getD, List.getElem?_set, if_neg e, ← List.getD_eq_getElem?_getD]
theorem marks_one {n : Nat} {f : SlF} {g : List Int} (hg : isGrp n g = true) : ∃ W, marks n (List.replicate n []) [(f, g)] = some W ∧ OwnIs n g W := by
 have hg' := hg
 rw [isGrp, Bool.and_eq_true] at hg'
 have hrep : ∀ i : Nat, (List.replicate n ([] : List Int)).getD i [] = [] := by
  intro i
  rw [List.getD_eq_getElem?_getD, List.getElem?_replicate]
  split <;> rfl
 obtain ⟨W, h1, h2, h3⟩ := mark_is (g := g) (W := List.replicate n []) hg'.1 (by omega) (by simp) (fun i _ => hrep i)
 refine ⟨W, ?_, h2, fun i hi => by rw [h3 i hi, hrep]⟩
 simp only [marks, if_pos hg, h1, Option.bind_some]
theorem out_tot {v : Pc → Int} {l : List Pc} {g : List Int} {W : List (List Int)} (hg : isGrp l.length g = true) (hW : OwnIs l.length g W) : ∀ (c i : Nat), i + c = l.length →
  totV v (outS l (l.drop i) (W.drop i) i) + sumG v l (fromG g i) = totV v (l.drop i) + if (i : Int) ≤ g.getD 0 0 then v ⟨sumG (·.n) l g, sumG (·.b) l g⟩ else 0 := by
 have hg' := hg
 rw [isGrp, Bool.and_eq_true, decide_eq_true_eq] at hg'
 obtain ⟨g1, g2⟩ := hg'
 have hh := isG_mem g1 _ (head_mem g2)
 intro c
 induction c with
 | zero =>
  intro i e
  have e' : i = l.length := by omega
  subst e'
  have hlt : ¬ ((l.length : Nat) : Int) ≤ g.getD 0 0 := by omega
  rw [List.drop_length, fromG_end g1, if_neg hlt]
  cases W.drop l.length <;> rfl
 | succ c ih =>
  intro i e
  have hi : i < l.length := by omega
  have hiW : i < W.length := by rw [hW.1]; exact hi
  have ih' := ih (i + 1) (by omega)
  have hw := hW.2 i hi
  rw [List.getD_eq_getElem?_getD, List.getElem?_eq_getElem hiW, Option.getD_some] at hw
  rw [List.drop_eq_getElem_cons hi, List.drop_eq_getElem_cons hiW, outS, totV_append, totV_cons]
  have hp : pAt l (i : Int) = l[i] := (pAt_get (l := l) (i := (i : Int)) ⟨by omega, by omega⟩).symm
  by_cases hm : (i : Int) ∈ g
  ·rw [if_pos hm] at hw
   rw [hw, if_neg g2, fromG_in g1 hm, sumG_cons, hp]
   by_cases he : g.getD 0 0 = (i : Int)
   ·have h1 : (i : Int) ≤ g.getD 0 0 := by omega
    have h2 : ¬ ((i + 1 : Nat) : Int) ≤ g.getD 0 0 := by omega
    rw [if_neg h2] at ih'
    rw [if_pos he, if_pos h1, totV_cons]
    simp only [totV, List.map_nil, List.sum_nil] at ih' ⊢
    omega
   ·have hle := head_least g1 _ hm
    have h1 : ¬ (i : Int) ≤ g.getD 0 0 := by omega
    have h2 : ¬ ((i + 1 : Nat) : Int) ≤ g.getD 0 0 := by omega
    rw [if_neg h2] at ih'
    rw [if_neg he, if_neg h1]
    simp only [totV, List.map_nil, List.sum_nil] at ih' ⊢
    omega
  ·rw [if_neg hm] at hw
   have hne : g.getD 0 0 ≠ (i : Int) := fun e => hm (e ▸ head_mem g2)
   rw [hw, if_pos rfl, totV_cons, fromG_out hm]
   by_cases h1 : (i : Int) ≤ g.getD 0 0
   ·have h2 : ((i + 1 : Nat) : Int) ≤ g.getD 0 0 := by omega
    rw [if_pos h2] at ih'
    rw [if_pos h1]
    simp only [totV, List.map_nil, List.sum_nil] at ih' ⊢
    omega
   ·have h2 : ¬ ((i + 1 : Nat) : Int) ≤ g.getD 0 0 := by omega
    rw [if_neg h2] at ih'
    rw [if_neg h1]
    simp only [totV, List.map_nil, List.sum_nil] at ih' ⊢
    omega
theorem out_all {v : Pc → Int} {l : List Pc} {f : SlF} {g : List Int} (hv : validB l = true) (hg : isGrp l.length g = true) :
  (afterO l [(f, g)]).isSome = true ∧ totV v (getO (afterO l [(f, g)])) + sumG v l g = totV v l + v ⟨sumG (·.n) l g, sumG (·.b) l g⟩ := by
 obtain ⟨W, h1, h2⟩ := marks_one (f := f) hg
 have hg' := hg
 rw [isGrp, Bool.and_eq_true, decide_eq_true_eq] at hg'
 obtain ⟨g1, g2⟩ := hg'
 have hh := isG_mem g1 _ (head_mem g2)
 have ht := out_tot (v := v) hg h2 l.length 0 (by omega)
 rw [fromG_all g1, if_pos (by omega), List.drop_zero, List.drop_zero] at ht
 unfold afterO
 rw [if_pos hv, h1]
 exact ⟨rfl, ht⟩
theorem totV_one (l : List Pc) : totV (fun _ => 1) l = (l.length : Int) := by
 induction l with
 | nil => rfl
 | cons p l ih => rw [totV_cons, ih, List.length_cons]; omega
theorem sumG_one (l : List Pc) (g : List Int) : sumG (fun _ => 1) l g = (g.length : Int) := by
 induction g with
 | nil => rfl
 | cons p g ih => rw [sumG_cons, ih, List.length_cons]; omega
theorem sumR_eq (l : List Pc) : sumR l = 4096 * (l.length : Int) + totB l := by
 induction l with
 | nil => rfl
 | cons p l ih => rw [sumR_cons, ih, List.length_cons]; simp only [totB, List.map_cons, List.sum_cons]; omega
theorem merge_sums {l : List Pc} {f : SlF} {g : List Int} (hv : validB l = true) (hg : isGrp l.length g = true) {O : List Pc} (hO : O = getO (afterO l [(f, g)])) :
  errO (afterO l [(f, g)]) = 0 ∧ totN O = totN l ∧ totB O = totB l ∧ (O.length : Int) + g.length = l.length + 1 := by
 subst hO
 obtain ⟨h0, h1⟩ := out_all (v := fun p => p.n) (f := f) hv hg
 obtain ⟨_, h2⟩ := out_all (v := fun p => p.b) (f := f) hv hg
 obtain ⟨_, h3⟩ := out_all (v := fun _ => 1) (f := f) hv hg
 rw [totV_one, totV_one, sumG_one] at h3
 refine ⟨by unfold errO; rw [if_pos h0], ?_, ?_, h3⟩
 ·have h : totV (fun p => p.n) (getO (afterO l [(f, g)])) + sumG (fun p => p.n) l g = totV (fun p => p.n) l + sumG (fun p => p.n) l g := h1
  show totV (fun p => p.n) _ = totV (fun p => p.n) _; omega
 ·have h : totV (fun p => p.b) (getO (afterO l [(f, g)])) + sumG (fun p => p.b) l g = totV (fun p => p.b) l + sumG (fun p => p.b) l g := h2
  show totV (fun p => p.b) _ = totV (fun p => p.b) _; omega
end Go.Abs
/- Walks of chapter 36: the examples. -/
set_option linter.unusedSimpArgs false
set_option linter.unusedVariables false
set_option maxRecDepth 100000
set_option maxHeartbeats 4000000
namespace Go.Abs
open Go

theorem X37_says : fSays T 1000 i_X37 [] AVal.isTrue = true := by kernel_rfl
theorem X37_spec {lv : List Nat} {σ : Sto} {R : Post} : Cw T true i_X37 [] lv σ R ↔ R (.bool true) σ := cw_true T_X37 rfl X37_says
@[go_sem] theorem X37_call {Q : Post3} {k : List Item} {os : List AOper} {d : Option Nat} {e : Env} {σ : Sto} : CallK T Q k os d e σ true i_X37 [] ↔ Run T Q (.ops os :: k) (put e d (.bool true)) σ := X37_spec
end Go.Abs
/- Walks of chapter 36: CostSums. -/
set_option linter.unusedSimpArgs false
set_option linter.unusedVariables false
set_option maxRecDepth 100000
set_option maxHeartbeats 8000000
namespace Go.Abs
open Go
attribute [local go_sem_proc] Nat.reduceLT Nat.reduceEqDiff Nat.reduceLeDiff Nat.reduceAdd Nat.reduceSub Nat.reduceMul Int.reduceLT Int.reduceLE Int.reduceEq Int.reduceNeg
attribute [local go_sem_proc ↓] reduceIte

theorem sameG_says : fSays T 100 i_X29 [.nils, .nils] AVal.isTrue = true := by kernel_rfl
theorem sameP_says : fSays T 100 i_X30 [.nils, .nils] AVal.isTrue = true := by kernel_rfl
theorem sameG_nil {Q : Post3} {k : List Item} {os : List AOper} {d : Option Nat} {e : Env} {σ : Sto} : CallK T Q k os d e σ true i_X29 [.nils, .nils] ↔ Run T Q (.ops os :: k) (put e d (.bool true)) σ := cw_true T_X29 rfl sameG_says
theorem sameP_nil {Q : Post3} {k : List Item} {os : List AOper} {d : Option Nat} {e : Env} {σ : Sto} : CallK T Q k os d e σ true i_X30 [.nils, .nils] ↔ Run T Q (.ops os :: k) (put e d (.bool true)) σ := cw_true T_X30 rfl sameP_says
theorem alike_n_spec {N E : Int} {lv : List Nat} {σ : Sto} {R : Post} : Cw T true i_X55 [.agg [.nils, .nils, .int .i64 N, .int .i64 E], .agg [.nils, .nils, .int .i64 N, .int .i64 E]] lv σ R ↔ R (.bool true) σ := by
 refine cw_intro T_X55 (by simp only [go_sem]) (by simp) ?_; rw [run_unfold X55.main.eq_1]
 simp (maxSteps := 2000000) only [go_sem, sameG_nil, sameP_nil, decide_true]
theorem alike_n {N E : Int} {Q : Post3} {k : List Item} {os : List AOper} {d : Option Nat} {e : Env} {σ : Sto} : CallK T Q k os d e σ true i_X55 [.agg [.nils, .nils, .int .i64 N, .int .i64 E], .agg [.nils, .nils, .int .i64 N, .int .i64 E]] ↔ Run T Q (.ops os :: k) (put e d (.bool true)) σ := alike_n_spec

def stp (n d : Nat) : Nat → Nat → List Int
 | 0, _ => []
 | c + 1, i => if i < n then (i : Int) :: stp n d c (i + d) else []
theorem stp_isG {n d : Nat} (hd : 0 < d) : ∀ (c i : Nat) (last : Int), last < i → isG n last (stp n d c i) = true
 | 0, i, last, h => rfl
 | c + 1, i, last, h => by
  unfold stp
  split
  ·rename_i hi
   rw [isG, decide_eq_true ⟨h, by omega⟩, Bool.true_and]
   exact stp_isG hd c (i + d) i (by omega)
  ·rfl
abbrev intsO (D : List Int) : AObj := .cells false (D.map fun i => .int .i64 i)
theorem madeP_ok {z : List (Nat × Nat)} (hb : ∀ p ∈ z, p.1 < 256 ∧ p.2 < 256) : (madeP z).length ≤ 60 ∧ ∀ p ∈ madeP z, 1 ≤ p.n ∧ p.n ≤ 79 ∧ 0 ≤ p.b ∧ p.b ≤ 10200 := by
 refine ⟨by unfold madeP; rw [List.length_map, List.length_take]; omega, fun p hp => ?_⟩
 obtain ⟨q, hq, rfl⟩ := List.mem_map.1 hp
 obtain ⟨h1, h2⟩ := hb q (List.mem_of_mem_take hq)
 have e3 : (4 : Int) ^ (q.1 % 4) = ((4 ^ (q.1 % 4) : Nat) : Int) := by rw [Int.natCast_pow]; rfl
 have e2 : 1 ≤ 4 ^ (q.1 % 4) ∧ 4 ^ (q.1 % 4) ≤ 64 := by
  rcases (by omega : q.1 % 4 = 0 ∨ q.1 % 4 = 1 ∨ q.1 % 4 = 2 ∨ q.1 % 4 = 3) with h | h | h | h <;> rw [h] <;> decide
 unfold mkP
 simp only [e3]
 generalize 4 ^ (q.1 % 4) = y at *
 omega
theorem madeP_valid {z : List (Nat × Nat)} (hb : ∀ p ∈ z, p.1 < 256 ∧ p.2 < 256) : validB (madeP z) = true := by
 obtain ⟨h1, h2⟩ := madeP_ok hb
 refine validB_ok.2 ⟨by omega, fun p hp => ?_⟩
 have := h2 p hp
 omega
theorem tot_bound {l : List Pc} {v : Pc → Int} {M : Int} (hM : 0 ≤ M) : (∀ p ∈ l, 0 ≤ v p ∧ v p ≤ M) → 0 ≤ totV v l ∧ totV v l ≤ l.length * M := by
 induction l with
 | nil => intro _; simp [totV]
 | cons p l ih =>
  intro h
  have h1 := h p List.mem_cons_self
  have h2 := ih fun q hq => h q (List.mem_cons_of_mem _ hq)
  rw [totV_cons, List.length_cons, Int.natCast_succ, Int.add_mul]
  omega

@[go_sem] theorem iaP0 {o gen off : Nat} {σ : Sto} : iaddrAV 2 1 (.ptr o gen off) (.int .i64 0) σ = some (.ptr o gen (off + 0), σ) := rfl
@[go_sem] theorem iaP1 {o gen off : Nat} {σ : Sto} : iaddrAV 2 1 (.ptr o gen off) (.int .i64 1) σ = some (.ptr o gen (off + 1), σ) := rfl
theorem freeze_ints {σ : Sto} {o : Nat} {g : List Int} (hσ : σ[o]? = some (intsO g)) : freezeV (.ref o g.length 0 g.length 1) σ = some (intsA .lst g, σ.set o .dead) := by
 have hl : (g.map fun i => AVal.int .i64 i).length = g.length := List.length_map ..
 have hp : AVal.pures (g.map fun i => AVal.int .i64 i) = true := v_names_map (fun _ => rfl) g
 simp only [freezeV, hσ, hl, hp, Nat.zero_add, Nat.mul_one, Nat.le_refl, true_and, and_self, Bool.false_and, List.drop_zero, Bool.false_eq_true, if_false, Nat.zero_lt_one, if_true]
 have hc := chunk_one (g.map fun i => AVal.int .i64 i)
 rw [hl] at hc
 rw [List.take_of_length_le (by rw [hl]; exact Nat.le_refl _), hc, intsA, sv_lst]
abbrev kO (k0 k1 : Nat) : AObj := .cells false [.int .u8 (k0 : Int), .int .u8 (k1 : Int)]
theorem grp_loop {l : List Pc} {k0 k1 : Nat} {g : List Int} {Q : Post3} (hl : l.length ≤ 60) (hk : k1 < 256)
  (next : Run T Q [.code X36.c0] (mkE 94 [(5, .bool true), (6, pcA .lst l), (7, .ref 1 g.length 0 g.length 1)]) [kO k0 k1, intsO g]) :
  ∀ (c i : Nat), l.length ≤ i + c → i ≤ 100 → ∀ D, D ++ stp l.length (1 + k1 % 5) c i = g → D.length ≤ i →
  Run T Q (.inLoop X36.b0 :: X36.k0) (mkE 94 [(3, .ptr 0 2 0), (5, .bool true), (6, pcA .lst l), (7, .ref 1 D.length 0 D.length 1), (8, .int .i64 i)]) [kO k0 k1, intsO D] := by
 have stop : ∀ (i : Nat) (D : List Int), l.length ≤ i → D = g → Run T Q (.inLoop X36.b0 :: X36.k0) (mkE 94 [(3, .ptr 0 2 0), (5, .bool true), (6, pcA .lst l), (7, .ref 1 D.length 0 D.length 1), (8, .int .i64 i)]) [kO k0 k1, intsO D] := by
  intro i D hi e
  subst e
  have h : ¬ i < l.length := by omega
  rw [run_round, run_unfold X36.b0.eq_1]
  simp (maxSteps := 2000000) only [go_sem, h, X36.k0]
  exact next
 intro c
 induction c with
 | zero =>
  intro i hi _ D e _
  rw [stp, List.append_nil] at e
  exact stop i D (by omega) e
 | succ c ih =>
  intro i hi hi1 D e hD
  rw [stp] at e
  by_cases h : i < l.length
  ·rw [if_pos h] at e
   have h3 : ((k1 : Nat) : Int).tmod 5 = ((k1 % 5 : Nat) : Int) := rfl
   have w0 : IntKind.i64.wrap ((k1 % 5 : Nat) : Int) = ((k1 % 5 : Nat) : Int) := wrap_nat (by omega)
   have w1 : IntKind.i64.wrap (1 + ((k1 % 5 : Nat) : Int)) = ((1 + k1 % 5 : Nat) : Int) := by rw [wrap_i64 (by omega) (by omega)]; omega
   have w2 : IntKind.i64.wrap ((i : Int) + ((1 + k1 % 5 : Nat) : Int)) = ((i + (1 + k1 % 5) : Nat) : Int) := by rw [wrap_i64 (by omega) (by omega)]; omega
   have ih' := ih (i + (1 + k1 % 5)) (by omega) (by omega) (D ++ [(i : Int)]) (by rw [List.append_assoc]; exact e) (by simp; omega)
   rw [run_round, run_unfold X36.b0.eq_1]
   simp (maxSteps := 2000000) only [go_sem, h]
   rw [appendV_push (nl := false) (cs := D.map fun i => .int .i64 i) (v := .int .i64 (i : Int)) rfl rfl (by simp) rfl (by simp only [maxBytes]; omega)]
   have hm : D.map (fun i => AVal.int .i64 i) ++ [.int .i64 (i : Int)] = (D ++ [(i : Int)]).map fun i => .int .i64 i := by simp
   rw [hm]
   rw [List.length_append, List.length_cons, List.length_nil] at ih'
   simp (maxSteps := 2000000) only [go_sem, h3, w0, w1, w2]
   first | exact ih' | exact ⟨v_names_map (fun _ => rfl) _, ih'⟩
  ·rw [if_neg h, List.append_nil] at e
   exact stop i D (by omega) e

theorem deep_one {n o : Nat} {σ : Sto} {v : AVal} (hv : v.pure = true) (hσ : σ[o]? = some (.cells false [v]))   : deepA (n + 2) σ (.ref o 1 0 1 1) = some (.list 1 [v], σ.set o .dead) := by
 have h0 : (AVal.ref o 1 0 1 1).pure = false := by simp [AVal.names]
 have hp : AVal.pures [v] = true := by simp only [AVal.namesL, hv, Bool.true_and]
 rw [deepA, h0]
 simp only [Bool.false_eq_true, if_false, hσ, List.length_cons, List.length_nil, Nat.zero_add, Nat.one_mul, Nat.le_refl, true_and, and_self, if_true, deepL_pure hp, Bool.false_and, List.drop_zero, show (0 : Nat) < 1 by decide]
 rfl
theorem eqs_pc {a b : Int} {σ : Sto} : eqsV true (.row [(0, 1, false, .int .i64), (1, 1, false, .int .i64)]) (.agg [.int .i64 a, .int .i64 b]) (.agg [.int .i64 a, .int .i64 b]) σ = some (.bool false, σ) := by
 simp [eqsV, eqA, eqParts]
theorem sumG_nn {v : Pc → Int} {l : List Pc} (hv : ∀ p ∈ l, 0 ≤ v p) (h0 : 0 ≤ v ⟨0, 0⟩) : ∀ g : List Int, 0 ≤ sumG v l g
 | [] => Int.le_refl _
 | i :: g => by
  have h1 := sumG_nn hv h0 g
  have h2 : 0 ≤ v (pAt l i) := by
   unfold pAt
   rw [List.getD_eq_getElem?_getD]
   cases h : l[i.toNat]? with
   | none => exact h0
   | some p => exact hv p (List.mem_of_getElem? h)
  rw [sumG_cons]; omega
theorem outS_nn {l : List Pc} (h : ∀ p ∈ l, 0 ≤ p.n ∧ 0 ≤ p.b) : ∀ {ps : List Pc} {ws : List (List Int)} {i : Nat}, (∀ p ∈ ps, p ∈ l) → ∀ p ∈ outS l ps ws i, 0 ≤ p.n ∧ 0 ≤ p.b
 | [], ws, i, _, p, hp => by simp [outS] at hp
 | q :: ps, [], i, _, p, hp => by simp [outS] at hp
 | q :: ps, g :: ws, i, hps, p, hp => by
  rw [outS] at hp
  rcases List.mem_append.1 hp with hp | hp
  ·split at hp
   ·rw [List.mem_singleton.1 hp]; exact h q (hps q List.mem_cons_self)
   ·split at hp
    ·rw [List.mem_singleton.1 hp]
     exact ⟨sumG_nn (fun p hp => (h p hp).1) (by simp) g, sumG_nn (fun p hp => (h p hp).2) (by simp) g⟩
    ·simp at hp
  ·exact outS_nn h (fun p hp => hps p (List.mem_cons_of_mem _ hp)) p hp
theorem getO_nn {l : List Pc} {G : List (SlF × List Int)} (h : ∀ p ∈ l, 0 ≤ p.n ∧ 0 ≤ p.b) : ∀ p ∈ getO (afterO l G), 0 ≤ p.n ∧ 0 ≤ p.b := by
 unfold afterO
 split
 ·cases hm : marks l.length (List.replicate l.length []) G with
  | none => intro p hp; simp [getO] at hp
  | some W => exact outS_nn h (fun p hp => hp)
 ·intro p hp; simp [getO] at hp
theorem sums_end {l : List Pc} {k0 k1 : Nat} {g : List Int} (hl : l.length ≤ 60) (hp : ∀ p ∈ l, 1 ≤ p.n ∧ p.n ≤ 79 ∧ 0 ≤ p.b ∧ p.b ≤ 10200) (hg : isG l.length (-1) g = true) :
  Run T (Res [.tmp 4] (.bool true)) [.code X36.c0] (mkE 94 [(5, .bool true), (6, pcA .lst l), (7, .ref 1 g.length 0 g.length 1)]) [kO k0 k1, intsO g] := by
 have hv : validB l = true := validB_ok.2 ⟨by omega, fun p h => by have := hp p h; omega⟩
 have hf : Fits l := by show l.length < _; omega
 simp (maxSteps := 2000000) only [go_sem, run_unfold X36.c0.eq_1]
 rw [freeze_ints rfl]
 by_cases hne : g = []
 ·have hz : ((g.length : Nat) : Int) = 0 := by rw [hne]; rfl
  simp (maxSteps := 2000000) only [go_sem, hz]
 ·have hgr : isGrp l.length g = true := by rw [isGrp, hg, decide_eq_true hne]; rfl
  have hglen : g.length ≤ 60 := by
   rcases isG_len hg (by omega) with h | h
   ·omega
   ·exact absurd h hne
  have hg0 : 0 < g.length := List.length_pos_iff.2 hne
  have hz : ¬ ((g.length : Nat) : Int) = 0 := by omega
  obtain ⟨O, hO⟩ : ∃ O, O = getO (afterO l [(.lst, g)]) := ⟨_, rfl⟩
  obtain ⟨m0, m1, m2, m3⟩ := merge_sums (f := .lst) hv hgr hO
  have hca := fun {Q k os d e σ} => @X56_call .lst .lst l [(.lst, g)] (by omega) (by simp) (fun p h => by rw [List.mem_singleton.1 h]; show g.length < _; omega) Q k os d e σ
  rw [← hO, m0, grA, List.map_cons, List.map_nil, sv_lst] at hca
  obtain ⟨b1, b2⟩ := tot_bound (l := l) (v := fun p => p.n) (M := 79) (by omega) (fun p h => by have := hp p h; omega)
  obtain ⟨b3, b4⟩ := tot_bound (l := l) (v := fun p => p.b) (M := 10200) (by omega) (fun p h => by have := hp p h; omega)
  have b1 : 0 ≤ totN l := b1
  have b2 : totN l ≤ l.length * 79 := b2
  have b3 : 0 ≤ totB l := b3
  have b4 : totB l ≤ l.length * 10200 := b4
  have sl : SmallL l := ⟨by omega, fun p h => by have := hp p h; omega, by omega, by omega⟩
  have hOl : O.length ≤ 60 := by omega
  have sO : SmallL O := ⟨by omega, by rw [hO]; exact getO_nn fun p h => by have := hp p h; omega, by omega, by omega⟩
  have ht1 := fun {Q k os d e σ} => @X61_call .lst l sl Q k os d e σ
  have ht2 := fun {Q k os d e σ} => @X61_call (flP O) O sO Q k os d e σ
  rw [m1, m2] at ht2
  have hr1 := fun {Q k os d e σ} => @X63_call .lst l (by omega) Q k os d e σ
  have hr2 := fun {Q k os d e σ} => @X63_call (flP O) O (by omega) Q k os d e σ
  have hvO := fun {Q k os d e σ} => @X58_call (flP O) O (by show O.length < _; omega) Q k os d e σ
  have rn1 : readN l = sumR l := if_pos hv
  have re1 : readE l = 0 := if_pos hv
  have w1 : IntKind.i64.wrap ((l.length : Int) - (g.length : Int)) = (l.length : Int) - (g.length : Int) := wrap_i64 (by omega) (by omega)
  have w2 : IntKind.i64.wrap ((l.length : Int) - (g.length : Int) + 1) = (O.length : Int) := by rw [wrap_i64 (by omega) (by omega)]; omega
  simp (maxSteps := 2000000) only [go_sem, hz]
  rw [deep_one (n := 62) (o := 2) (v := intsA .lst g) sv_pure rfl]
  simp (maxSteps := 2000000) only [go_sem, hca, hr1, hr2, ht1, ht2, rn1, re1, w1, w2, eqs_pc]
  cases hvo : validB O
  ·simp (maxSteps := 2000000) only [go_sem, hvO, hvo]
  ·have rn2 : readN O = sumR O := if_pos hvo
   have re2 : readE O = 0 := if_pos hvo
   have e1 := sumR_eq l
   have e2 := sumR_eq O
   rw [m2] at e2
   have w3 : IntKind.i64.wrap ((g.length : Int) - 1) = (g.length : Int) - 1 := wrap_i64 (by omega) (by omega)
   have w4 : IntKind.i64.wrap (4096 * ((g.length : Int) - 1)) = 4096 * ((g.length : Int) - 1) := wrap_i64 (by omega) (by omega)
   have w5 : IntKind.i64.wrap (sumR l - 4096 * ((g.length : Int) - 1)) = sumR O := by rw [wrap_i64 (by omega) (by omega)]; omega
   simp (maxSteps := 2000000) only [go_sem, hvO, hvo, hr2, rn2, re2, w3, w4, w5, alike_n]
theorem X36_spec {f : SlF} {z : List (Nat × Nat)} {k0 k1 : Nat} (hz : z.length < 9223372036854775808) (hb : ∀ p ∈ z, p.1 < 256 ∧ p.2 < 256) (h0 : k0 < 256) (h1 : k1 < 256) {lv : List Nat} {σ : Sto} {R : Post} : Cw T true i_X36 [twoA f z, .agg [.int .u8 (k0 : Int), .int .u8 (k1 : Int)]] lv σ R ↔ R (.bool true) σ := by
 refine cw_intro T_X36 (by simp only [go_sem]) (by simp) ?_; rw [run_unfold X36.main.eq_1]
 obtain ⟨hl, hp⟩ := madeP_ok hb
 have hm := fun {Q k os d e σ} => @X65_call f z hz hb Q k os d e σ
 generalize madeP z = l at *
 have h3 : ((k0 : Nat) : Int).tmod 8 = ((k0 % 8 : Nat) : Int) := rfl
 have w0 : IntKind.i64.wrap ((k0 % 8 : Nat) : Int) = ((k0 % 8 : Nat) : Int) := wrap_nat (by omega)
 have hend := sums_end (l := l) (k0 := k0) (k1 := k1) (g := stp l.length (1 + k1 % 5) 60 (k0 % 8)) hl hp (stp_isG (by omega) 60 (k0 % 8) (-1) (by omega))
 have hloop := grp_loop (k0 := k0) hl h1 hend 60 (k0 % 8) (by omega) (by omega) [] rfl (by simp)
 simp only [List.length_nil] at hloop
 simp (maxSteps := 2000000) only [go_sem, hm, h3, w0]
 exact hloop
@[go_sem] theorem X36_call {f : SlF} {z : List (Nat × Nat)} {k0 k1 : Nat} (hz : z.length < 9223372036854775808) (hb : ∀ p ∈ z, p.1 < 256 ∧ p.2 < 256) (h0 : k0 < 256) (h1 : k1 < 256) {Q : Post3} {k : List Item} {os : List AOper} {d : Option Nat} {e : Env} {σ : Sto} : CallK T Q k os d e σ true i_X36 [twoA f z, .agg [.int .u8 (k0 : Int), .int .u8 (k1 : Int)]] ↔ Run T Q (.ops os :: k) (put e d (.bool true)) σ := X36_spec hz hb h0 h1

end Go.Abs
