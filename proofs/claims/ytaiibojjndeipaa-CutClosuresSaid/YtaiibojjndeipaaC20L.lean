/- Walks of chapter 20: closed, greatest, consistent. -/
import Derived.Test.YtaiibojjndeipaaC20K
set_option linter.all false
set_option linter.unusedSimpArgs false
set_option linter.unusedVariables false
namespace Go.Abs
open Go

theorem slices_Equal_int_loop {f g : SlF} {a b : List Int} (ha : Fits a) (hb : b.length = a.length) : ∀ i, i ≤ a.length →
    Run T (Res [.tmp 4] (.bool (decide (a.drop i = b.drop i)))) (.inLoop slices_Equal_int.b0 :: slices_Equal_int.k0) (mkE 26 [(0, ints f a), (1, ints g b), (12, .int .i64 a.length), (13, .int .i64 i)]) [] := by
  refine up_ind ?_ fun i hi ih => ?_
  · rw [run_round, run_unfold slices_Equal_int.b0.eq_1]
    simp (maxSteps := 2000000) only [go_sem, ↓reduceIte, Nat.reduceLT, Nat.reduceEqDiff, Nat.reduceLeDiff, Nat.reduceAdd, Nat.reduceSub, Nat.reduceMul, Int.reduceLT, Int.reduceLE, Int.reduceEq, Int.reduceNeg, run_unfold slices_Equal_int.c0.eq_1, run_unfold slices_Equal_int.c1.eq_1, slices_Equal_int.k0, List.drop_length, show b.drop a.length = [] by rw [← hb]; exact List.drop_length]
  · rw [run_round, run_unfold slices_Equal_int.b0.eq_1]
    have h2 : i < b.length := by omega
    rw [List.drop_eq_getElem_cons hi, List.drop_eq_getElem_cons h2]
    simp (maxSteps := 2000000) only [go_sem, ↓reduceIte, Nat.reduceLT, Nat.reduceEqDiff, Nat.reduceLeDiff, Nat.reduceAdd, Nat.reduceSub, Nat.reduceMul, Int.reduceLT, Int.reduceLE, Int.reduceEq, Int.reduceNeg, hi, h2, List.cons.injEq]
    by_cases h : a[i] = b[i]
    · simp (maxSteps := 2000000) only [go_sem, ↓reduceIte, Nat.reduceLT, Nat.reduceEqDiff, Nat.reduceLeDiff, Nat.reduceAdd, Nat.reduceSub, Nat.reduceMul, Int.reduceLT, Int.reduceLE, Int.reduceEq, Int.reduceNeg, h, wrap_succ (show i < 9223372036854775807 by omega)]
      exact ih
    · simp (maxSteps := 2000000) only [go_sem, ↓reduceIte, Nat.reduceLT, Nat.reduceEqDiff, Nat.reduceLeDiff, Nat.reduceAdd, Nat.reduceSub, Nat.reduceMul, Int.reduceLT, Int.reduceLE, Int.reduceEq, Int.reduceNeg, h]

theorem slices_Equal_int_spec {f g : SlF} {a b : List Int} (ha : Fits a) {lv : List Nat} {σ : Sto} {R : Post} : Cw T true i_slices_Equal_int [ints f a, ints g b] lv σ R ↔ R (.bool (decide (a = b))) σ := by
  refine cw_intro T_slices_Equal_int (by simp only [go_sem]) (by simp) ?_; rw [run_unfold slices_Equal_int.main.eq_1]
  simp (maxSteps := 2000000) only [go_sem, ↓reduceIte, Nat.reduceLT, Nat.reduceEqDiff, Nat.reduceLeDiff, Nat.reduceAdd, Nat.reduceSub, Nat.reduceMul, Int.reduceLT, Int.reduceLE, Int.reduceEq, Int.reduceNeg]
  by_cases h : a.length = b.length
  · simp (maxSteps := 2000000) only [go_sem, ↓reduceIte, Nat.reduceLT, Nat.reduceEqDiff, Nat.reduceLeDiff, Nat.reduceAdd, Nat.reduceSub, Nat.reduceMul, Int.reduceLT, Int.reduceLE, Int.reduceEq, Int.reduceNeg, h]
    have := slices_Equal_int_loop (f := f) (g := g) ha h.symm 0 (by omega)
    rw [h] at this
    exact this
  · have h' : ¬ a = b := fun e => h (by rw [e])
    have h2 : ¬ ((a.length : Int) = (b.length : Int)) := by omega
    simp (maxSteps := 2000000) only [go_sem, ↓reduceIte, Nat.reduceLT, Nat.reduceEqDiff, Nat.reduceLeDiff, Nat.reduceAdd, Nat.reduceSub, Nat.reduceMul, Int.reduceLT, Int.reduceLE, Int.reduceEq, Int.reduceNeg, h2, h']
@[go_sem] theorem slices_Equal_int_call {f g : SlF} {a b : List Int} (ha : Fits a) {Q : Post3} {k : List Item} {os : List AOper} {d : Option Nat} {e : Env} {σ : Sto} : CallK T Q k os d e σ true i_slices_Equal_int [ints f a, ints g b] ↔ Run T Q (.ops os :: k) (put e d (.bool (decide (a = b)))) σ := slices_Equal_int_spec ha


theorem reachF_valid {l : List Com} : ∀ n (c : List Int), valid c = true → valid (reachF l n c) = true
  | 0, c, h => h
  | n + 1, c, h => by
    unfold reachF
    split
    · exact h
    · rename_i s hs
      have hs6 : s < 6 := by
        have : ∀ d i, firstS l c i d = some s → s < i + d := by
          intro d
          induction d with
          | zero => intro i h; simp [firstS] at h
          | succ d ih =>
            intro i h
            unfold firstS at h
            split at h
            · have := ih (i + 1) h; omega
            · simp at h; omega
        exact this 6 0 hs
      exact reachF_valid n _ (valid_set h (by omega) (fit_small h hs6))

theorem ne_nil_of_valid {c : List Int} (h : valid c = true) : c ≠ [] := by intro e; have := valid_len h; rw [e] at this; simp at this
theorem bytes_of_valid {c : List Int} (h : valid c = true) : c.length * 8 ≤ maxBytes := by have := valid_len h; unfold maxBytes; omega

theorem snap_litN {σ : Sto} {n o m : Nat} {c : List Int} (hσ : σ[o]? = some (.cells false (c.map fun n => AVal.int .i64 n))) (hm : c.length = m) : snapA σ (n + 2) (.ref o m 0 m 1) = some (ints .lst c) := by
  subst hm; exact snap_ints hσ

def closedP (l : List Com) (c : List Int) : Bool := valid c && decide (reachF l 6000 c = c)

theorem cut_Closed_spec {f g : SlF} {l : List Com} {c : List Int} (hl : Fits l) {lv : List Nat} {σ : Sto} {R : Post} : Cw T true i_cut_Closed [coms f l, ints g c] lv σ R ↔ R (.bool (closedP l c)) σ := by
  refine cw_intro T_cut_Closed (by simp only [go_sem]) (by simp) ?_; rw [run_unfold cut_Closed.main.eq_1]
  unfold closedP
  cases hv : valid c
  case false => simp (maxSteps := 2000000) only [go_sem, ↓reduceIte, Nat.reduceLT, Nat.reduceEqDiff, Nat.reduceLeDiff, Nat.reduceAdd, Nat.reduceSub, Nat.reduceMul, Int.reduceLT, Int.reduceLE, Int.reduceEq, Int.reduceNeg, hv]
  have h6 := valid_len hv
  simp (maxSteps := 2000000) only [go_sem, ↓reduceIte, Nat.reduceLT, Nat.reduceEqDiff, Nat.reduceLeDiff, Nat.reduceAdd, Nat.reduceSub, Nat.reduceMul, Int.reduceLT, Int.reduceLE, Int.reduceEq, Int.reduceNeg, hv, ne_nil_of_valid hv, bytes_of_valid hv]
  rw [h6, callK_shared (cut_reach_spec hl hv)]
  simp (maxSteps := 2000000) only [go_sem, ↓reduceIte, Nat.reduceLT, Nat.reduceEqDiff, Nat.reduceLeDiff, Nat.reduceAdd, Nat.reduceSub, Nat.reduceMul, Int.reduceLT, Int.reduceLE, Int.reduceEq, Int.reduceNeg]
  have hr := reachF_valid (l := l) 6000 c hv
  rw [callK_live T_slices_Equal_int (as := [ints .lst (reachF l 6000 c), ints g c]) (slices_Equal_int_spec (fits_of_valid hr)) (by
    rw [mapM_scons, snapDepth_eq, snap_lit (c := reachF l 6000 c) (by rfl) (valid_len hr), mapM_scons, snapA_step (by simp (maxSteps := 2000000) only [go_sem, ↓reduceIte, Nat.reduceLT, Nat.reduceEqDiff, Nat.reduceLeDiff, Nat.reduceAdd, Nat.reduceSub, Nat.reduceMul, Int.reduceLT, Int.reduceLE, Int.reduceEq, Int.reduceNeg]), mapM_snil]) (by simp (maxSteps := 2000000) only [go_sem, ↓reduceIte, Nat.reduceLT, Nat.reduceEqDiff, Nat.reduceLeDiff, Nat.reduceAdd, Nat.reduceSub, Nat.reduceMul, Int.reduceLT, Int.reduceLE, Int.reduceEq, Int.reduceNeg]) rfl]
  simp (maxSteps := 2000000) only [go_sem, ↓reduceIte, Nat.reduceLT, Nat.reduceEqDiff, Nat.reduceLeDiff, Nat.reduceAdd, Nat.reduceSub, Nat.reduceMul, Int.reduceLT, Int.reduceLE, Int.reduceEq, Int.reduceNeg]
@[go_sem] theorem cut_Closed_call {f g : SlF} {l : List Com} {c : List Int} (hl : Fits l) {Q : Post3} {k : List Item} {os : List AOper} {d : Option Nat} {e : Env} {σ : Sto} : CallK T Q k os d e σ true i_cut_Closed [coms f l, ints g c] ↔ Run T Q (.ops os :: k) (put e d (.bool (closedP l c))) σ := cut_Closed_spec hl


def greatestP (l : List Com) (c : List Int) : Cut := if valid c = true then ⟨.lst, reachF l 6000 c, 0⟩ else ⟨.nil, [], 200⟩

theorem cut_Greatest_spec {f g : SlF} {l : List Com} {c : List Int} (hl : Fits l) {lv : List Nat} {σ : Sto} {R : Post} : Cw T true i_cut_Greatest [coms f l, ints g c] lv σ R ↔ R (encT (greatestP l c)) σ := by
  refine cw_intro T_cut_Greatest (by simp only [go_sem]) (by simp) ?_; rw [run_unfold cut_Greatest.main.eq_1]
  unfold greatestP
  cases hv : valid c
  case false => simp (maxSteps := 2000000) only [go_sem, ↓reduceIte, Nat.reduceLT, Nat.reduceEqDiff, Nat.reduceLeDiff, Nat.reduceAdd, Nat.reduceSub, Nat.reduceMul, Int.reduceLT, Int.reduceLE, Int.reduceEq, Int.reduceNeg, hv, encT]
  have h6 := valid_len hv
  simp (maxSteps := 2000000) only [go_sem, ↓reduceIte, Nat.reduceLT, Nat.reduceEqDiff, Nat.reduceLeDiff, Nat.reduceAdd, Nat.reduceSub, Nat.reduceMul, Int.reduceLT, Int.reduceLE, Int.reduceEq, Int.reduceNeg, hv, ne_nil_of_valid hv, bytes_of_valid hv]
  rw [h6, callK_shared (cut_reach_spec hl hv)]
  simp (maxSteps := 2000000) only [go_sem, ↓reduceIte, Nat.reduceLT, Nat.reduceEqDiff, Nat.reduceLeDiff, Nat.reduceAdd, Nat.reduceSub, Nat.reduceMul, Int.reduceLT, Int.reduceLE, Int.reduceEq, Int.reduceNeg]
  rw [snap_litN (n := 61) (c := reachF l 6000 c) (by rfl) (valid_len (reachF_valid 6000 c hv))]
  simp (maxSteps := 2000000) only [go_sem, ↓reduceIte, Nat.reduceLT, Nat.reduceEqDiff, Nat.reduceLeDiff, Nat.reduceAdd, Nat.reduceSub, Nat.reduceMul, Int.reduceLT, Int.reduceLE, Int.reduceEq, Int.reduceNeg]
@[go_sem] theorem cut_Greatest_call {f g : SlF} {l : List Com} {c : List Int} (hl : Fits l) {Q : Post3} {k : List Item} {os : List AOper} {d : Option Nat} {e : Env} {σ : Sto} : CallK T Q k os d e σ true i_cut_Greatest [coms f l, ints g c] ↔ Run T Q (.ops os :: k) (put e d (encT (greatestP l c))) σ := cut_Greatest_spec hl


theorem l20_greatest_spec {f g : SlF} {l : List Com} {c : List Int} (hl : Fits l) {lv : List Nat} {σ : Sto} {R : Post} : Cw T true i_l20_greatest [coms f l, ints g c] lv σ R ↔ R (encU (greatestP l c)) σ := by
  refine cw_intro T_l20_greatest (by simp only [go_sem]) (by simp) ?_; rw [run_unfold l20_greatest.main.eq_1]
  simp (maxSteps := 2000000) only [go_sem, ↓reduceIte, Nat.reduceLT, Nat.reduceEqDiff, Nat.reduceLeDiff, Nat.reduceAdd, Nat.reduceSub, Nat.reduceMul, Int.reduceLT, Int.reduceLE, Int.reduceEq, Int.reduceNeg, hl]
@[go_sem] theorem l20_greatest_call {f g : SlF} {l : List Com} {c : List Int} (hl : Fits l) {Q : Post3} {k : List Item} {os : List AOper} {d : Option Nat} {e : Env} {σ : Sto} : CallK T Q k os d e σ true i_l20_greatest [coms f l, ints g c] ↔ Run T Q (.ops os :: k) (put e d (encU (greatestP l c))) σ := l20_greatest_spec hl


/-! ### Consistent lists -/
theorem slices_IndexFunc_Commit_loop {f : SlF} {l : List Com} (hl : Fits l) {g : FuncId} {p : Com → Bool} (hg : ∀ {x : Com} {lv : List Nat} {σ : Sto} {R : Post}, Cw T true g [encC x] lv σ R ↔ R (.bool (p x)) σ) : ∀ i, i ≤ l.length →
    Run T (Res [.tmp 4] (.int .i64 (match (l.drop i).findIdx? p with | some j => (i + j : Nat) | none => -1))) (.inLoop slices_IndexFunc_Commit.b0 :: slices_IndexFunc_Commit.k0) (mkE 19 [(0, coms f l), (1, .clo (.func g) [] []), (7, .int .i64 l.length), (8, .int .i64 i)]) [] := by
  refine up_ind ?_ fun i hi ih => ?_
  · rw [run_round, run_unfold slices_IndexFunc_Commit.b0.eq_1]
    simp (maxSteps := 2000000) only [go_sem, ↓reduceIte, Nat.reduceLT, Nat.reduceEqDiff, Nat.reduceLeDiff, Nat.reduceAdd, Nat.reduceSub, Nat.reduceMul, Int.reduceLT, Int.reduceLE, Int.reduceEq, Int.reduceNeg, run_unfold slices_IndexFunc_Commit.c0.eq_1, run_unfold slices_IndexFunc_Commit.c1.eq_1, slices_IndexFunc_Commit.k0, List.drop_length, List.findIdx?_nil]
  · rw [run_round, run_unfold slices_IndexFunc_Commit.b0.eq_1]
    rw [List.drop_eq_getElem_cons hi]
    have hc : ∀ {Q : Post3} {k : List Item} {os : List AOper} {d : Option Nat} {e : Env} {σ : Sto}, CallK T Q k os d e σ true g [encC l[i]] ↔ Run T Q (.ops os :: k) (put e d (.bool (p l[i]))) σ := callK_of hg
    simp (maxSteps := 2000000) only [go_sem, ↓reduceIte, Nat.reduceLT, Nat.reduceEqDiff, Nat.reduceLeDiff, Nat.reduceAdd, Nat.reduceSub, Nat.reduceMul, Int.reduceLT, Int.reduceLE, Int.reduceEq, Int.reduceNeg, hi, List.findIdx?_cons, hc]
    cases hp : p l[i]
    · simp (maxSteps := 2000000) only [go_sem, ↓reduceIte, Nat.reduceLT, Nat.reduceEqDiff, Nat.reduceLeDiff, Nat.reduceAdd, Nat.reduceSub, Nat.reduceMul, Int.reduceLT, Int.reduceLE, Int.reduceEq, Int.reduceNeg, wrap_succ (show i < 9223372036854775807 by omega)]
      refine Eq.mp (congrArg (fun v => Run T (Res [.tmp 4] (.int .i64 v)) _ _ _) ?_) ih
      cases (l.drop (i + 1)).findIdx? p with
      | none => rfl
      | some j => simp; omega
    · simp (maxSteps := 2000000) only [go_sem, ↓reduceIte, Nat.reduceLT, Nat.reduceEqDiff, Nat.reduceLeDiff, Nat.reduceAdd, Nat.reduceSub, Nat.reduceMul, Int.reduceLT, Int.reduceLE, Int.reduceEq, Int.reduceNeg, Nat.add_zero]

theorem slices_IndexFunc_Commit_spec {f : SlF} {l : List Com} (hl : Fits l) {g : FuncId} {p : Com → Bool} (hg : ∀ {x : Com} {lv : List Nat} {σ : Sto} {R : Post}, Cw T true g [encC x] lv σ R ↔ R (.bool (p x)) σ) {lv : List Nat} {σ : Sto} {R : Post} :
    Cw T true i_slices_IndexFunc_Commit [coms f l, .clo (.func g) [] []] lv σ R ↔ R (.int .i64 (idxOf p l)) σ := by
  refine cw_intro T_slices_IndexFunc_Commit (by simp only [go_sem]) (by simp) ?_; rw [run_unfold slices_IndexFunc_Commit.main.eq_1]
  simp (maxSteps := 2000000) only [go_sem, ↓reduceIte, Nat.reduceLT, Nat.reduceEqDiff, Nat.reduceLeDiff, Nat.reduceAdd, Nat.reduceSub, Nat.reduceMul, Int.reduceLT, Int.reduceLE, Int.reduceEq, Int.reduceNeg]
  have := slices_IndexFunc_Commit_loop (f := f) hl hg 0 (by omega)
  simp only [List.drop_zero, Nat.zero_add] at this
  exact this

theorem slices_ContainsFunc_Commit_spec {f : SlF} {l : List Com} (hl : Fits l) {g : FuncId} {p : Com → Bool} (hg : ∀ {x : Com} {lv : List Nat} {σ : Sto} {R : Post}, Cw T true g [encC x] lv σ R ↔ R (.bool (p x)) σ) {lv : List Nat} {σ : Sto} {R : Post} :
    Cw T true i_slices_ContainsFunc_Commit [coms f l, .clo (.func g) [] []] lv σ R ↔ R (.bool (l.any p)) σ := by
  refine cw_intro T_slices_ContainsFunc_Commit (by simp only [go_sem]) (by simp) ?_; rw [run_unfold slices_ContainsFunc_Commit.main.eq_1]
  simp (maxSteps := 2000000) only [go_sem, ↓reduceIte, Nat.reduceLT, Nat.reduceEqDiff, Nat.reduceLeDiff, Nat.reduceAdd, Nat.reduceSub, Nat.reduceMul, Int.reduceLT, Int.reduceLE, Int.reduceEq, Int.reduceNeg, callK_of (slices_IndexFunc_Commit_spec hl hg), any_idx]

theorem cut_Consistent_1_spec {c : Com} {lv : List Nat} {σ : Sto} {R : Post} : Cw T true i_cut_Consistent_1 [encC c] lv σ R ↔ R (.bool (!wf c)) σ := by
  refine cw_intro T_cut_Consistent_1 (by simp only [go_sem]) (by simp) ?_; rw [run_unfold cut_Consistent_1.main.eq_1]
  simp (maxSteps := 2000000) only [go_sem, ↓reduceIte, Nat.reduceLT, Nat.reduceEqDiff, Nat.reduceLeDiff, Nat.reduceAdd, Nat.reduceSub, Nat.reduceMul, Int.reduceLT, Int.reduceLE, Int.reduceEq, Int.reduceNeg]
@[go_sem] theorem cut_Consistent_1_call {c : Com} {Q : Post3} {k : List Item} {os : List AOper} {d : Option Nat} {e : Env} {σ : Sto} : CallK T Q k os d e σ true i_cut_Consistent_1 [encC c] ↔ Run T Q (.ops os :: k) (put e d (.bool (!wf c))) σ := cut_Consistent_1_spec


def consistentP (l : List Com) : Bool := decide ((nmap l).length = l.length) && l.all wf && l.all fun c => knownL l c.past 0 c.past

theorem cut_Consistent_in {f : SlF} {l : List Com} {c : Com} {i : Nat} {v : Bool} (hl : Fits l) (hp : Fits c.past)
    (hgood : knownL l c.past 0 c.past = true → Run T (Res [.tmp 2] (.bool v)) (.inLoop cut_Consistent.b0 :: cut_Consistent.k0) (mkE 60 [(0, coms f l), (3, fmapN (nmap l)), (21, coms f l), (22, .int .i64 l.length), (23, .int .i64 ((i + 1 : Nat) : Int))]) [])
    (hbad : knownL l c.past 0 c.past = false → v = false) (hi : i < l.length) : ∀ j, j ≤ c.past.length → knownL l c.past j (c.past.drop j) = knownL l c.past 0 c.past →
    Run T (Res [.tmp 2] (.bool v)) (.inLoop cut_Consistent.b1 :: cut_Consistent.k1 0) (mkE 60 [(0, coms f l), (3, fmapN (nmap l)), (5, .ptr 0 5 0), (21, coms f l), (22, .int .i64 l.length), (23, .int .i64 i), (28, ints c.pf c.past), (29, .int .i64 c.past.length), (30, .int .i64 j)]) [.cells false (encC c).cells] := by
  have hw := wrap_succ (show i < 9223372036854775807 by omega)
  refine up_ind ?_ fun j hj ih hk => ?_
  · intro hk
    rw [run_round, run_unfold cut_Consistent.b1.eq_1]
    rw [List.drop_length, knownL] at hk
    simp (maxSteps := 2000000) only [go_sem, ↓reduceIte, Nat.reduceLT, Nat.reduceEqDiff, Nat.reduceLeDiff, Nat.reduceAdd, Nat.reduceSub, Nat.reduceMul, Int.reduceLT, Int.reduceLE, Int.reduceEq, Int.reduceNeg, run_unfold cut_Consistent.c0.eq_1, run_unfold cut_Consistent.c1.eq_1, run_unfold cut_Consistent.c2.eq_1, run_unfold cut_Consistent.c3.eq_1, cut_Consistent.k0, cut_Consistent.k1, hw]
    exact hgood hk.symm
  · rw [run_round, run_unfold cut_Consistent.b1.eq_1]
    rw [List.drop_eq_getElem_cons hj, knownL] at hk
    have hw2 := wrap_succ (show j < 9223372036854775807 by omega)
    by_cases h0 : c.past[j] = 0
    · rw [if_pos h0, Bool.true_and] at hk
      simp (maxSteps := 2000000) only [go_sem, ↓reduceIte, Nat.reduceLT, Nat.reduceEqDiff, Nat.reduceLeDiff, Nat.reduceAdd, Nat.reduceSub, Nat.reduceMul, Int.reduceLT, Int.reduceLE, Int.reduceEq, Int.reduceNeg, run_unfold cut_Consistent.c0.eq_1, run_unfold cut_Consistent.c1.eq_1, run_unfold cut_Consistent.c2.eq_1, run_unfold cut_Consistent.c3.eq_1, cut_Consistent.k0, cut_Consistent.k1, hj, h0, hw2]
      exact ih hk
    · rw [if_neg h0] at hk
      rcases nmap_cases l ⟨j, c.past[j]⟩ with ⟨h1, h2⟩ | ⟨q, hq, h1, h2⟩
      · rw [h2] at hk
        have := hbad (by rw [← hk]; rfl)
        subst this
        simp (maxSteps := 2000000) only [go_sem, ↓reduceIte, Nat.reduceLT, Nat.reduceEqDiff, Nat.reduceLeDiff, Nat.reduceAdd, Nat.reduceSub, Nat.reduceMul, Int.reduceLT, Int.reduceLE, Int.reduceEq, Int.reduceNeg, run_unfold cut_Consistent.c0.eq_1, run_unfold cut_Consistent.c1.eq_1, run_unfold cut_Consistent.c2.eq_1, run_unfold cut_Consistent.c3.eq_1, cut_Consistent.k0, cut_Consistent.k1, hj, h0, hw2, h1]
      · rw [h2] at hk
        simp only at hk
        cases h3 : leq l[q].past c.past
        · rw [h3] at hk
          have := hbad (by rw [← hk]; rfl)
          subst this
          simp (maxSteps := 2000000) only [go_sem, ↓reduceIte, Nat.reduceLT, Nat.reduceEqDiff, Nat.reduceLeDiff, Nat.reduceAdd, Nat.reduceSub, Nat.reduceMul, Int.reduceLT, Int.reduceLE, Int.reduceEq, Int.reduceNeg, run_unfold cut_Consistent.c0.eq_1, run_unfold cut_Consistent.c1.eq_1, run_unfold cut_Consistent.c2.eq_1, run_unfold cut_Consistent.c3.eq_1, cut_Consistent.k0, cut_Consistent.k1, hj, h0, hw2, h1, hq, h3]
        · rw [h3, Bool.true_and] at hk
          simp (maxSteps := 2000000) only [go_sem, ↓reduceIte, Nat.reduceLT, Nat.reduceEqDiff, Nat.reduceLeDiff, Nat.reduceAdd, Nat.reduceSub, Nat.reduceMul, Int.reduceLT, Int.reduceLE, Int.reduceEq, Int.reduceNeg, run_unfold cut_Consistent.c0.eq_1, run_unfold cut_Consistent.c1.eq_1, run_unfold cut_Consistent.c2.eq_1, run_unfold cut_Consistent.c3.eq_1, cut_Consistent.k0, cut_Consistent.k1, hj, h0, hw2, h1, hq, h3]
          exact ih hk

theorem cut_Consistent_out {f : SlF} {l : List Com} (hl : Fits l) (hp : ∀ c ∈ l, Fits c.past) : ∀ i, i ≤ l.length →
    Run T (Res [.tmp 2] (.bool ((l.drop i).all fun c => knownL l c.past 0 c.past))) (.inLoop cut_Consistent.b0 :: cut_Consistent.k0) (mkE 60 [(0, coms f l), (3, fmapN (nmap l)), (21, coms f l), (22, .int .i64 l.length), (23, .int .i64 i)]) [] := by
  refine up_ind ?_ fun i hi ih => ?_
  · rw [run_round, run_unfold cut_Consistent.b0.eq_1]
    simp (maxSteps := 2000000) only [go_sem, ↓reduceIte, Nat.reduceLT, Nat.reduceEqDiff, Nat.reduceLeDiff, Nat.reduceAdd, Nat.reduceSub, Nat.reduceMul, Int.reduceLT, Int.reduceLE, Int.reduceEq, Int.reduceNeg, run_unfold cut_Consistent.c0.eq_1, run_unfold cut_Consistent.c1.eq_1, run_unfold cut_Consistent.c2.eq_1, run_unfold cut_Consistent.c3.eq_1, cut_Consistent.k0, cut_Consistent.k1, List.drop_length]
  · rw [run_round, run_unfold cut_Consistent.b0.eq_1]
    rw [List.drop_eq_getElem_cons hi, List.all_cons]
    simp (maxSteps := 2000000) only [go_sem, ↓reduceIte, Nat.reduceLT, Nat.reduceEqDiff, Nat.reduceLeDiff, Nat.reduceAdd, Nat.reduceSub, Nat.reduceMul, Int.reduceLT, Int.reduceLE, Int.reduceEq, Int.reduceNeg, run_unfold cut_Consistent.c0.eq_1, run_unfold cut_Consistent.c1.eq_1, run_unfold cut_Consistent.c2.eq_1, run_unfold cut_Consistent.c3.eq_1, cut_Consistent.k0, cut_Consistent.k1, hi]
    refine cut_Consistent_in (i := i) hl (hp _ (List.getElem_mem hi)) (fun h => ?_) (fun h => ?_) hi 0 (by omega) rfl
    · rw [h, Bool.true_and]; exact ih
    · rw [h, Bool.false_and]

theorem cut_Consistent_spec {f : SlF} {l : List Com} (hl : Fits l) {lv : List Nat} {σ : Sto} {R : Post} : Cw T true i_cut_Consistent [coms f l] lv σ R ↔ R (.bool (consistentP l)) σ := by
  refine cw_intro T_cut_Consistent (by simp only [go_sem]) (by simp) ?_; rw [run_unfold cut_Consistent.main.eq_1]
  unfold consistentP
  have hlen : ∀ {σ : Sto}, lenV .mp (.fmap (keysA (nmap l)) (valsA (nmap l))) σ = some (.int .i64 ((nmap l).length : Nat), σ) := by intro σ; simp [lenV]
  have hany : ∀ {lv : List Nat} {σ : Sto} {R : Post}, Cw T true i_slices_ContainsFunc_Commit [coms f l, .clo (.func i_cut_Consistent_1) [] []] lv σ R ↔ R (.bool (l.any fun c => !wf c)) σ := slices_ContainsFunc_Commit_spec hl (p := fun c => !wf c) cut_Consistent_1_spec
  by_cases h1 : (nmap l).length = l.length
  · have h1' : ((nmap l).length : Int) = (l.length : Int) := by omega
    cases h2 : l.all wf
    · have h3 : (l.any fun c => !wf c) = true := by rw [List.all_eq_not_any_not] at h2; simpa using h2
      simp (maxSteps := 2000000) only [go_sem, ↓reduceIte, Nat.reduceLT, Nat.reduceEqDiff, Nat.reduceLeDiff, Nat.reduceAdd, Nat.reduceSub, Nat.reduceMul, Int.reduceLT, Int.reduceLE, Int.reduceEq, Int.reduceNeg, hl, hlen, h1, h1', callK_of hany, h2, h3]
    · have h3 : (l.any fun c => !wf c) = false := by rw [List.all_eq_not_any_not] at h2; simpa using h2
      simp (maxSteps := 2000000) only [go_sem, ↓reduceIte, Nat.reduceLT, Nat.reduceEqDiff, Nat.reduceLeDiff, Nat.reduceAdd, Nat.reduceSub, Nat.reduceMul, Int.reduceLT, Int.reduceLE, Int.reduceEq, Int.reduceNeg, hl, hlen, h1, h1', callK_of hany, h2, h3]
      refine cut_Consistent_out hl (fun c hc => past_fits (List.all_eq_true.1 h2 c hc)) 0 (by omega)
  · have h1' : ¬ ((nmap l).length : Int) = (l.length : Int) := by omega
    simp (maxSteps := 2000000) only [go_sem, ↓reduceIte, Nat.reduceLT, Nat.reduceEqDiff, Nat.reduceLeDiff, Nat.reduceAdd, Nat.reduceSub, Nat.reduceMul, Int.reduceLT, Int.reduceLE, Int.reduceEq, Int.reduceNeg, hl, hlen, h1, h1']
@[go_sem] theorem cut_Consistent_call {f : SlF} {l : List Com} (hl : Fits l) {Q : Post3} {k : List Item} {os : List AOper} {d : Option Nat} {e : Env} {σ : Sto} : CallK T Q k os d e σ true i_cut_Consistent [coms f l] ↔ Run T Q (.ops os :: k) (put e d (.bool (consistentP l))) σ := cut_Consistent_spec hl


end Go.Abs
