/- Parts of the proof: D20A, D20B, D20C, C23A, C23B, C23C, D20D, D20G, C23D, C23E, C23G. -/
import Derived.Test.YtmdkgkhddjhdoaaDoorC23F
import Derived.Test.YtmdkgkhddjhdoaaDoorAbsVal
set_option linter.all false
/- Walks of chapter 20: the first functions. -/
set_option linter.unusedSimpArgs false
set_option linter.unusedVariables false
namespace Go.Abs
open Go
attribute [local go_sem_proc] Nat.reduceLT Nat.reduceEqDiff Nat.reduceLeDiff Nat.reduceAdd Nat.reduceSub Nat.reduceMul Int.reduceLT Int.reduceLE Int.reduceEq Int.reduceNeg
attribute [local go_sem_proc ↓] reduceIte

abbrev int (n : Int) : AVal := .int .i64 n
abbrev ints (f : SlF) (c : List Int) : AVal := sv 1 f (c.map fun n => .int .i64 n)
@[go_sem] theorem ints_nil : ints .nil [] = .nils := rfl
abbrev Fits {α : Type} (l : List α) : Prop := l.length < 9223372036854775808

def okSeq (n : Int) : Bool := decide (0 ≤ n) && decide (n ≤ 999)
def valid (c : List Int) : Bool := decide (c.length = 6) && c.all okSeq

theorem r20_Valid_loop {f : SlF} {c : List Int} (hl : c.length = 6) : ∀ i, i ≤ c.length →
    Run T (Res [.tmp 2] (.bool ((c.drop i).all okSeq))) (.inLoop r20_Valid.b0 :: r20_Valid.k0) (mkE 25 [(0, ints f c), (3, .int .i64 i)]) [] := by
  refine up_ind ?_ fun i hi ih => ?_
  · rw [run_round, run_unfold r20_Valid.b0.eq_1]
    simp (maxSteps := 2000000) only [go_sem, Nat.lt_irrefl, r20_Valid.k0, run_unfold r20_Valid.c0.eq_1, List.drop_length]
  · rw [run_round, run_unfold r20_Valid.b0.eq_1]
    rw [List.drop_eq_getElem_cons hi]
    simp (maxSteps := 2000000) only [go_sem, hi, okSeq]
    by_cases h0 : c[i] < 0
    · simp (maxSteps := 2000000) only [go_sem, h0, Int.not_le.2 h0]
    · simp (maxSteps := 2000000) only [go_sem, hi, h0, Int.not_lt.1 h0]
      by_cases h1 : 999 < c[i]
      · simp (maxSteps := 2000000) only [go_sem, h1, Int.not_le.2 h1]
      · simp (maxSteps := 2000000) only [go_sem, h1, Int.not_lt.1 h1, wrap_succ (show i < 9223372036854775807 by omega)]
        exact ih

theorem r20_Valid_spec {f : SlF} {c : List Int} {lv : List Nat} {σ : Sto} {R : Post} : Cw T true i_r20_Valid [ints f c] lv σ R ↔ R (.bool (valid c)) σ := by
  refine cw_intro T_r20_Valid (by simp only [go_sem]) (by simp) ?_; rw [run_unfold r20_Valid.main.eq_1]
  simp (maxSteps := 2000000) only [go_sem, valid]
  by_cases hl : (c.length : Int) = 6
  · have hl' : c.length = 6 := by omega
    simp (maxSteps := 2000000) only [go_sem, hl, hl']
    exact r20_Valid_loop hl' 0 (by omega)
  · have hl' : ¬ c.length = 6 := by omega
    simp (maxSteps := 2000000) only [go_sem, hl, hl']
@[go_sem] theorem r20_Valid_call {f : SlF} {c : List Int} {Q : Post3} {k : List Item} {os : List AOper} {d : Option Nat} {e : Env} {σ : Sto} : CallK T Q k os d e σ true i_r20_Valid [ints f c] ↔ Run T Q (.ops os :: k) (put e d (.bool (valid c))) σ := r20_Valid_spec


theorem cut_Valid_1_spec {n : Int} {lv : List Nat} {σ : Sto} {R : Post} : Cw T true i_cut_Valid_1 [.int .i64 n] lv σ R ↔ R (.bool (!okSeq n)) σ := by
  refine cw_intro T_cut_Valid_1 (by simp only [go_sem]) (by simp) ?_; rw [run_unfold cut_Valid_1.main.eq_1]
  simp (maxSteps := 2000000) only [go_sem, okSeq]
  by_cases h0 : n < 0
  · simp (maxSteps := 2000000) only [go_sem, h0, Int.not_le.2 h0]
  · simp (maxSteps := 2000000) only [go_sem, h0, Int.not_lt.1 h0]
    by_cases h1 : 999 < n
    · simp (maxSteps := 2000000) only [go_sem, h1, Int.not_le.2 h1]
    · simp (maxSteps := 2000000) only [go_sem, h1, Int.not_lt.1 h1]
@[go_sem] theorem cut_Valid_1_call {n : Int} {Q : Post3} {k : List Item} {os : List AOper} {d : Option Nat} {e : Env} {σ : Sto} : CallK T Q k os d e σ true i_cut_Valid_1 [.int .i64 n] ↔ Run T Q (.ops os :: k) (put e d (.bool (!okSeq n))) σ := cut_Valid_1_spec


def idxOf {α : Type} (p : α → Bool) (l : List α) : Int := match l.findIdx? p with
  | some i => i
  | none => -1

theorem slices_IndexFunc_int_loop {f : SlF} {c : List Int} (hc : Fits c) {g : FuncId} {fs cs : List AVal} {p : Int → Bool} (hg : ∀ {x : Int} {lv : List Nat} {σ : Sto} {R : Post}, Cw T true g (fs ++ [.int .i64 x] ++ cs) lv σ R ↔ R (.bool (p x)) σ) : ∀ i, i ≤ c.length →
    Run T (Res [.tmp 4] (.int .i64 (match (c.drop i).findIdx? p with | some j => (i + j : Nat) | none => -1))) (.inLoop slices_IndexFunc_int.b0 :: slices_IndexFunc_int.k0) (mkE 19 [(0, ints f c), (1, .clo (.func g) fs cs), (7, .int .i64 c.length), (8, .int .i64 i)]) [] := by
  refine up_ind ?_ fun i hi ih => ?_
  · rw [run_round, run_unfold slices_IndexFunc_int.b0.eq_1]
    simp (maxSteps := 2000000) only [go_sem, Nat.lt_irrefl, run_unfold slices_IndexFunc_int.c0.eq_1, run_unfold slices_IndexFunc_int.c1.eq_1, slices_IndexFunc_int.k0, List.drop_length, List.findIdx?_nil]
  · rw [run_round, run_unfold slices_IndexFunc_int.b0.eq_1]
    rw [List.drop_eq_getElem_cons hi]
    simp (maxSteps := 2000000) only [go_sem, hi, List.findIdx?_cons]
    simp only [← List.append_assoc, callK_of hg]
    simp (maxSteps := 2000000) only [go_sem]
    cases hp : p c[i]
    · simp (maxSteps := 2000000) only [go_sem, wrap_succ (show i < 9223372036854775807 by omega)]
      refine Eq.mp (congrArg (fun v => Run T (Res [.tmp 4] (.int .i64 v)) _ _ _) ?_) ih
      cases (c.drop (i + 1)).findIdx? p with
      | none => rfl
      | some j => simp; omega
    · simp (maxSteps := 2000000) only [go_sem, Nat.add_zero]

theorem slices_IndexFunc_int_spec {f : SlF} {c : List Int} (hc : Fits c) {g : FuncId} {fs cs : List AVal} {p : Int → Bool} (hg : ∀ {x : Int} {lv : List Nat} {σ : Sto} {R : Post}, Cw T true g (fs ++ [.int .i64 x] ++ cs) lv σ R ↔ R (.bool (p x)) σ)
    (h1 : AVal.pures fs = true) (h2 : AVal.pures cs = true) {lv : List Nat} {σ : Sto} {R : Post} : Cw T true i_slices_IndexFunc_int [ints f c, .clo (.func g) fs cs] lv σ R ↔ R (.int .i64 (idxOf p c)) σ := by
  refine cw_intro T_slices_IndexFunc_int (by simp (maxSteps := 2000000) only [go_sem, h1, h2]) (by simp) ?_
  rw [run_unfold slices_IndexFunc_int.main.eq_1]
  simp (maxSteps := 2000000) only [go_sem]
  have := slices_IndexFunc_int_loop (f := f) hc hg 0 (by omega)
  simp only [List.drop_zero, Nat.zero_add] at this
  exact this

theorem any_idx {α : Type} (p : α → Bool) (l : List α) : decide (0 ≤ idxOf p l) = l.any p := by
  unfold idxOf
  cases h : l.findIdx? p with
  | none =>
    rw [List.findIdx?_eq_none_iff] at h
    have : l.any p = false := by rw [List.any_eq_false]; intro x hx; simp [h x hx]
    rw [this]; rfl
  | some i =>
    have : l.any p = true := by
      rw [List.any_eq_true]
      obtain ⟨hi, hp, _⟩ := List.findIdx?_eq_some_iff_getElem.1 h
      exact ⟨l[i], List.getElem_mem hi, hp⟩
    rw [this]; simp

theorem slices_ContainsFunc_int_spec {f : SlF} {c : List Int} (hc : Fits c) {g : FuncId} {fs cs : List AVal} {p : Int → Bool} (hg : ∀ {x : Int} {lv : List Nat} {σ : Sto} {R : Post}, Cw T true g (fs ++ [.int .i64 x] ++ cs) lv σ R ↔ R (.bool (p x)) σ)
    (h1 : AVal.pures fs = true) (h2 : AVal.pures cs = true) {lv : List Nat} {σ : Sto} {R : Post} : Cw T true i_slices_ContainsFunc_int [ints f c, .clo (.func g) fs cs] lv σ R ↔ R (.bool (c.any p)) σ := by
  refine cw_intro T_slices_ContainsFunc_int (by simp (maxSteps := 2000000) only [go_sem, h1, h2]) (by simp) ?_
  rw [run_unfold slices_ContainsFunc_int.main.eq_1]
  simp (maxSteps := 2000000) only [go_sem, callK_of (slices_IndexFunc_int_spec hc hg h1 h2), any_idx]

@[go_sem] theorem slices_ContainsFunc_Valid {f : SlF} {c : List Int} (hc : Fits c) {Q : Post3} {k : List Item} {os : List AOper} {d : Option Nat} {e : Env} {σ : Sto} : CallK T Q k os d e σ true i_slices_ContainsFunc_int [ints f c, .clo (.func i_cut_Valid_1) [] []] ↔ Run T Q (.ops os :: k) (put e d (.bool (c.any fun n => !okSeq n))) σ :=
  callK_of <| slices_ContainsFunc_int_spec hc (fs := []) (cs := []) (by intros; exact cut_Valid_1_spec) rfl rfl

theorem cut_Valid_spec {f : SlF} {c : List Int} {lv : List Nat} {σ : Sto} {R : Post} : Cw T true i_cut_Valid [ints f c] lv σ R ↔ R (.bool (valid c)) σ := by
  refine cw_intro T_cut_Valid (by simp only [go_sem]) (by simp) ?_; rw [run_unfold cut_Valid.main.eq_1]
  simp (maxSteps := 2000000) only [go_sem, valid]
  by_cases hl : (c.length : Int) = 6
  · have hl' : c.length = 6 := by omega
    have hc : Fits c := by unfold Fits; omega
    simp (maxSteps := 2000000) only [go_sem, hl, hl', hc, List.all_eq_not_any_not]
  · have hl' : ¬ c.length = 6 := by omega
    simp (maxSteps := 2000000) only [go_sem, hl, hl']
@[go_sem] theorem cut_Valid_call {f : SlF} {c : List Int} {Q : Post3} {k : List Item} {os : List AOper} {d : Option Nat} {e : Env} {σ : Sto} : CallK T Q k os d e σ true i_cut_Valid [ints f c] ↔ Run T Q (.ops os :: k) (put e d (.bool (valid c))) σ := cut_Valid_spec


def leq (a b : List Int) : Bool := valid a && valid b && (a.zip b).all fun p => decide (p.1 ≤ p.2)

theorem valid_len {a : List Int} (h : valid a = true) : a.length = 6 := by
  simp only [valid, Bool.and_eq_true, decide_eq_true_eq] at h; exact h.1

theorem drop_zip {α β : Type} {a : List α} {b : List β} {i : Nat} (h1 : i < a.length) (h2 : i < b.length) : (a.zip b).drop i = (a[i], b[i]) :: (a.zip b).drop (i + 1) := by
  have : i < (a.zip b).length := by simp; omega
  rw [List.drop_eq_getElem_cons this]; simp

theorem cut_Leq_loop {f g : SlF} {a b : List Int} (ha : a.length = 6) (hb : b.length = 6) : ∀ i, i ≤ 6 →
    Run T (Res [.tmp 4] (.bool (((a.zip b).drop i).all fun p => decide (p.1 ≤ p.2)))) (.inLoop cut_Leq.b0 :: cut_Leq.k0) (mkE 27 [(0, ints f a), (1, ints g b), (14, .int .i64 i)]) [] := by
  refine up_ind ?_ fun i hi ih => ?_
  · rw [run_round, run_unfold cut_Leq.b0.eq_1]
    rw [List.drop_eq_nil_of_le (by simp; omega)]
    simp (maxSteps := 2000000) only [go_sem, run_unfold cut_Leq.c0.eq_1, run_unfold cut_Leq.c1.eq_1, cut_Leq.k0]
  · rw [run_round, run_unfold cut_Leq.b0.eq_1]
    have h1 : i < a.length := by omega
    have h2 : i < b.length := by omega
    rw [drop_zip h1 h2]
    simp (maxSteps := 2000000) only [go_sem, show ((i : Int) < 6) by omega, h1, h2]
    by_cases h : b[i] < a[i]
    · simp (maxSteps := 2000000) only [go_sem, h, Int.not_le.2 h]
    · simp (maxSteps := 2000000) only [go_sem, h, Int.not_lt.1 h, wrap_succ (show i < 9223372036854775807 by omega)]
      exact ih

theorem cut_Leq_spec {f g : SlF} {a b : List Int} {lv : List Nat} {σ : Sto} {R : Post} : Cw T true i_cut_Leq [ints f a, ints g b] lv σ R ↔ R (.bool (leq a b)) σ := by
  refine cw_intro T_cut_Leq (by simp only [go_sem]) (by simp) ?_; rw [run_unfold cut_Leq.main.eq_1]
  simp (maxSteps := 2000000) only [go_sem, leq]
  cases ha : valid a
  · simp (maxSteps := 2000000) only [go_sem]
  · cases hb : valid b
    · simp (maxSteps := 2000000) only [go_sem]
    · simp (maxSteps := 2000000) only [go_sem]
      exact cut_Leq_loop (valid_len ha) (valid_len hb) 0 (by omega)
@[go_sem] theorem cut_Leq_call {f g : SlF} {a b : List Int} {Q : Post3} {k : List Item} {os : List AOper} {d : Option Nat} {e : Env} {σ : Sto} : CallK T Q k os d e σ true i_cut_Leq [ints f a, ints g b] ↔ Run T Q (.ops os :: k) (put e d (.bool (leq a b))) σ := cut_Leq_spec


theorem r20_Leq_loop {f g : SlF} {a b : List Int} (ha : a.length = 6) (hb : b.length = 6) : ∀ i, i ≤ 6 →
    Run T (Res [.tmp 4] (.bool (((a.zip b).drop i).all fun p => decide (p.1 ≤ p.2)))) (.inLoop r20_Leq.b0 :: r20_Leq.k0) (mkE 29 [(0, ints f a), (1, ints g b), (5, .int .i64 i)]) [] := by
  refine up_ind ?_ fun i hi ih => ?_
  · rw [run_round, run_unfold r20_Leq.b0.eq_1]
    rw [List.drop_eq_nil_of_le (by simp; omega)]
    simp (maxSteps := 2000000) only [go_sem, run_unfold r20_Leq.c0.eq_1, run_unfold r20_Leq.c1.eq_1, r20_Leq.k0, ha]
  · rw [run_round, run_unfold r20_Leq.b0.eq_1]
    have h1 : i < a.length := by omega
    have h2 : i < b.length := by omega
    rw [drop_zip h1 h2]
    simp (maxSteps := 2000000) only [go_sem, h1, h2]
    by_cases h : b[i] < a[i]
    · simp (maxSteps := 2000000) only [go_sem, h, Int.not_le.2 h]
    · simp (maxSteps := 2000000) only [go_sem, h, Int.not_lt.1 h, wrap_succ (show i < 9223372036854775807 by omega)]
      exact ih

theorem r20_Leq_spec {f g : SlF} {a b : List Int} {lv : List Nat} {σ : Sto} {R : Post} : Cw T true i_r20_Leq [ints f a, ints g b] lv σ R ↔ R (.bool (leq a b)) σ := by
  refine cw_intro T_r20_Leq (by simp only [go_sem]) (by simp) ?_; rw [run_unfold r20_Leq.main.eq_1]
  simp (maxSteps := 2000000) only [go_sem, leq]
  cases ha : valid a
  · simp (maxSteps := 2000000) only [go_sem]
  · cases hb : valid b
    · simp (maxSteps := 2000000) only [go_sem]
    · simp (maxSteps := 2000000) only [go_sem]
      exact r20_Leq_loop (valid_len ha) (valid_len hb) 0 (by omega)
@[go_sem] theorem r20_Leq_call {f g : SlF} {a b : List Int} {Q : Post3} {k : List Item} {os : List AOper} {d : Option Nat} {e : Env} {σ : Sto} : CallK T Q k os d e σ true i_r20_Leq [ints f a, ints g b] ↔ Run T Q (.ops os :: k) (put e d (.bool (leq a b))) σ := r20_Leq_spec


end Go.Abs
/- Walks of chapter 20: commits. -/
set_option linter.unusedSimpArgs false
set_option linter.unusedVariables false
namespace Go.Abs
open Go
attribute [local go_sem_proc] Nat.reduceLT Nat.reduceEqDiff Nat.reduceLeDiff Nat.reduceAdd Nat.reduceSub Nat.reduceMul Int.reduceLT Int.reduceLE Int.reduceEq Int.reduceNeg
attribute [local go_sem_proc ↓] reduceIte

structure Nam where
  st : Int
  seq : Int
  deriving DecidableEq
abbrev encN (n : Nam) : AVal := .agg [.int .i64 n.st, .int .i64 n.seq]

/-- a commit; what is in its operations is left open -/
structure Com where
  st : Int
  seq : Int
  pf : SlF
  past : List Int
  ver : Int
  ops : AVal
  h1 : ops.one = true
  h2 : ops.pure = true
def Com.nam (c : Com) : Nam := ⟨c.st, c.seq⟩
abbrev encC (c : Com) : AVal := .agg [.int .i64 c.st, .int .i64 c.seq, ints c.pf c.past, .int .i64 c.ver, c.ops]

@[go_sem] theorem Com.one (c : Com) : c.ops.one = true := c.h1
theorem names_pure {p : Nat → Bool} : ∀ (v : AVal), v.pure = true → v.names p = true := by
  intro v
  refine AVal.rec (motive_1 := fun v => v.names (fun _ => false) = true → v.names p = true) (motive_2 := fun vs => AVal.namesL (fun _ => false) vs = true → AVal.namesL p vs = true)
    ?_ ?_ ?_ ?_ ?_ ?_ ?_ ?_ ?_ ?_ ?_ ?_ ?_ ?_ ?_ ?_ ?_ ?_ ?_ ?_ ?_ ?_ v <;> intros <;> simp_all [AVal.names, AVal.namesL]
@[go_sem] theorem Com.names (c : Com) (p : Nat → Bool) : c.ops.names p = true := names_pure _ c.h2
@[go_sem] theorem Com.cells (c : Com) : c.ops.cells = [c.ops] := by
  have := c.h1
  cases h : c.ops <;> simp [h, AVal.one] at this <;> rfl

def has (c : List Int) (n : Nam) : Bool := valid c && decide (0 ≤ n.st) && decide (n.st < 6) && decide (1 ≤ n.seq) && decide (n.seq ≤ c.getD n.st.toNat 0)

theorem getD_of {c : List Int} {i : Int} (hl : c.length = 6) (h0 : 0 ≤ i) (h1 : i < 6) : ∃ h : i.toNat < c.length, c.getD i.toNat 0 = c[i.toNat] := by
  have h : i.toNat < c.length := by omega
  exact ⟨h, by rw [List.getD_eq_getElem?_getD, List.getElem?_eq_getElem h]; rfl⟩

theorem cut_Has_spec {f : SlF} {c : List Int} {st seq : Int} {lv : List Nat} {σ : Sto} {R : Post} : Cw T true i_cut_Has [ints f c, .agg [.int .i64 st, .int .i64 seq]] lv σ R ↔ R (.bool (has c ⟨st, seq⟩)) σ := by
  refine cw_intro T_cut_Has (by simp only [go_sem]) (by simp) ?_; rw [run_unfold cut_Has.main.eq_1]
  unfold has
  cases hv : valid c
  case false => simp (maxSteps := 2000000) only [go_sem, hv]
  by_cases h1 : 0 ≤ st
  case neg => simp (maxSteps := 2000000) only [go_sem, h1, hv]
  by_cases h2 : st < 6
  case neg => simp (maxSteps := 2000000) only [go_sem, h2, hv, h1]
  by_cases h3 : 1 ≤ seq
  case neg => simp (maxSteps := 2000000) only [go_sem, h3, hv, h1, h2]
  obtain ⟨hi, hg⟩ := getD_of (valid_len hv) h1 h2
  simp (maxSteps := 2000000) only [go_sem, hv, h1, h2, h3, iaddrV_int h1 hi, hg]
@[go_sem] theorem cut_Has_call {f : SlF} {c : List Int} {st seq : Int} {Q : Post3} {k : List Item} {os : List AOper} {d : Option Nat} {e : Env} {σ : Sto} : CallK T Q k os d e σ true i_cut_Has [ints f c, .agg [.int .i64 st, .int .i64 seq]] ↔ Run T Q (.ops os :: k) (put e d (.bool (has c ⟨st, seq⟩))) σ := cut_Has_spec


def wf (c : Com) : Bool := decide (0 ≤ c.st) && decide (c.st < 6) && decide (1 ≤ c.seq) && decide (c.seq ≤ 999) && valid c.past && decide (c.past.getD c.st.toNat 0 = c.seq - 1)

theorem cut_WellFormed_spec {c : Com} {lv : List Nat} {σ : Sto} {R : Post} : Cw T true i_cut_WellFormed [encC c] lv σ R ↔ R (.bool (wf c)) σ := by
  refine cw_intro T_cut_WellFormed (by simp only [go_sem]) (by simp) ?_; rw [run_unfold cut_WellFormed.main.eq_1]
  unfold wf
  by_cases h1 : 0 ≤ c.st
  case neg => simp (maxSteps := 2000000) only [go_sem, h1]
  by_cases h2 : c.st < 6
  case neg => simp (maxSteps := 2000000) only [go_sem, h2, h1]
  by_cases h3 : 1 ≤ c.seq
  case neg => simp (maxSteps := 2000000) only [go_sem, h3, h1, h2]
  by_cases h4 : c.seq ≤ 999
  case neg => simp (maxSteps := 2000000) only [go_sem, h4, h1, h2, h3]
  cases hv : valid c.past
  case false => simp (maxSteps := 2000000) only [go_sem, hv, h1, h2, h3, h4]
  obtain ⟨hi, hg⟩ := getD_of (valid_len hv) h1 h2
  simp (maxSteps := 2000000) only [go_sem, hv, h1, h2, h3, h4, iaddrV_int h1 hi, hg, wrap_i64 (show -9223372036854775808 ≤ c.seq - 1 by omega) (show c.seq - 1 < 9223372036854775808 by omega)]
@[go_sem] theorem cut_WellFormed_call {c : Com} {Q : Post3} {k : List Item} {os : List AOper} {d : Option Nat} {e : Env} {σ : Sto} : CallK T Q k os d e σ true i_cut_WellFormed [encC c] ↔ Run T Q (.ops os :: k) (put e d (.bool (wf c))) σ := cut_WellFormed_spec


theorem r20_WellFormed_spec {c : Com} {lv : List Nat} {σ : Sto} {R : Post} : Cw T true i_r20_WellFormed [encC c] lv σ R ↔ R (.bool (wf c)) σ := by
  refine cw_intro T_r20_WellFormed (by simp only [go_sem]) (by simp) ?_; rw [run_unfold r20_WellFormed.main.eq_1]
  unfold wf
  by_cases h1 : 0 ≤ c.st
  case neg => simp (maxSteps := 2000000) only [go_sem, h1]
  by_cases h2 : c.st < 6
  case neg => simp (maxSteps := 2000000) only [go_sem, h2, h1]
  by_cases h3 : 1 ≤ c.seq
  case neg => simp (maxSteps := 2000000) only [go_sem, h3, h1, h2]
  by_cases h4 : c.seq ≤ 999
  case neg => simp (maxSteps := 2000000) only [go_sem, h4, h1, h2, h3]
  cases hv : valid c.past
  case false => simp (maxSteps := 2000000) only [go_sem, hv, h1, h2, h3, h4]
  obtain ⟨hi, hg⟩ := getD_of (valid_len hv) h1 h2
  simp (maxSteps := 2000000) only [go_sem, hv, h1, h2, h3, h4, iaddrV_int h1 hi, hg, wrap_i64 (show -9223372036854775808 ≤ c.seq - 1 by omega) (show c.seq - 1 < 9223372036854775808 by omega)]
@[go_sem] theorem r20_WellFormed_call {c : Com} {Q : Post3} {k : List Item} {os : List AOper} {d : Option Nat} {e : Env} {σ : Sto} : CallK T Q k os d e σ true i_r20_WellFormed [encC c] ↔ Run T Q (.ops os :: k) (put e d (.bool (wf c))) σ := r20_WellFormed_spec


theorem wf_parts {c : Com} (h : wf c = true) : 0 ≤ c.st ∧ c.st < 6 ∧ 1 ≤ c.seq ∧ c.seq ≤ 999 ∧ valid c.past = true ∧ c.past.getD c.st.toNat 0 = c.seq - 1 := by
  simp only [wf, Bool.and_eq_true, decide_eq_true_eq] at h
  obtain ⟨⟨⟨⟨⟨a, b⟩, c⟩, d⟩, e⟩, f⟩ := h
  exact ⟨a, b, c, d, e, f⟩

def sees (c a : Com) : Bool := wf c && wf a && decide (a.seq ≤ c.past.getD a.st.toNat 0)

theorem cut_Sees_spec {c a : Com} {lv : List Nat} {σ : Sto} {R : Post} : Cw T true i_cut_Sees [encC c, encC a] lv σ R ↔ R (.bool (sees c a)) σ := by
  refine cw_intro T_cut_Sees (by simp only [go_sem]) (by simp) ?_; rw [run_unfold cut_Sees.main.eq_1]
  unfold sees
  cases h1 : wf c
  case false => simp (maxSteps := 2000000) only [go_sem, h1]
  cases h2 : wf a
  case false => simp (maxSteps := 2000000) only [go_sem, h2, h1]
  obtain ⟨p1, p2, _⟩ := wf_parts h2
  obtain ⟨_, _, _, _, q, _⟩ := wf_parts h1
  obtain ⟨hi, hg⟩ := getD_of (valid_len q) p1 p2
  simp (maxSteps := 2000000) only [go_sem, h1, h2, iaddrV_int p1 hi, hg]
@[go_sem] theorem cut_Sees_call {c a : Com} {Q : Post3} {k : List Item} {os : List AOper} {d : Option Nat} {e : Env} {σ : Sto} : CallK T Q k os d e σ true i_cut_Sees [encC c, encC a] ↔ Run T Q (.ops os :: k) (put e d (.bool (sees c a))) σ := cut_Sees_spec


theorem r20_Sees_spec {c a : Com} {lv : List Nat} {σ : Sto} {R : Post} : Cw T true i_r20_Sees [encC c, encC a] lv σ R ↔ R (.bool (sees c a)) σ := by
  refine cw_intro T_r20_Sees (by simp only [go_sem]) (by simp) ?_; rw [run_unfold r20_Sees.main.eq_1]
  unfold sees
  cases h1 : wf c
  case false => simp (maxSteps := 2000000) only [go_sem, h1]
  cases h2 : wf a
  case false => simp (maxSteps := 2000000) only [go_sem, h2, h1]
  obtain ⟨p1, p2, _⟩ := wf_parts h2
  obtain ⟨_, _, _, _, q, _⟩ := wf_parts h1
  obtain ⟨hi, hg⟩ := getD_of (valid_len q) p1 p2
  simp (maxSteps := 2000000) only [go_sem, h1, h2, iaddrV_int p1 hi, hg]
@[go_sem] theorem r20_Sees_call {c a : Com} {Q : Post3} {k : List Item} {os : List AOper} {d : Option Nat} {e : Env} {σ : Sto} : CallK T Q k os d e σ true i_r20_Sees [encC c, encC a] ↔ Run T Q (.ops os :: k) (put e d (.bool (sees c a))) σ := r20_Sees_spec


/-- sums that wrap, as Go's do -/
def addW (a b : Int) : Int := IntKind.i64.wrap (a + b)
def sumW (l : List Int) : Int := l.foldl addW 0

theorem r20_Weight_loop {c : Com} (hc : Fits c.past) : ∀ i, i ≤ c.past.length → ∀ n : Int,
    Run T (Res [.tmp 2] (.int .i64 ((c.past.drop i).foldl addW n))) (.inLoop r20_Weight.b0 :: r20_Weight.k0) (mkE 20 [(1, .ptr 0 5 0), (3, .int .i64 n), (4, .int .i64 i)]) [.cells false (encC c).cells] := by
  refine up_ind ?_ fun i hi ih n => ?_
  · intro n
    rw [run_round, run_unfold r20_Weight.b0.eq_1]
    simp (maxSteps := 2000000) only [go_sem, run_unfold r20_Weight.c0.eq_1, r20_Weight.k0, List.drop_length, List.foldl_nil]
  · rw [run_round, run_unfold r20_Weight.b0.eq_1]
    rw [List.drop_eq_getElem_cons hi]
    simp (maxSteps := 2000000) only [go_sem, hi, List.foldl_cons, wrap_succ (show i < 9223372036854775807 by omega)]
    exact ih _

theorem r20_Weight_spec {c : Com} (hc : Fits c.past) {lv : List Nat} {σ : Sto} {R : Post} : Cw T true i_r20_Weight [encC c] lv σ R ↔ R (.int .i64 (sumW c.past)) σ := by
  refine cw_intro T_r20_Weight (by simp only [go_sem]) (by simp) ?_; rw [run_unfold r20_Weight.main.eq_1]
  simp (maxSteps := 2000000) only [go_sem]
  exact r20_Weight_loop hc 0 (by omega) 0
@[go_sem] theorem r20_Weight_call {c : Com} (hc : Fits c.past) {Q : Post3} {k : List Item} {os : List AOper} {d : Option Nat} {e : Env} {σ : Sto} : CallK T Q k os d e σ true i_r20_Weight [encC c] ↔ Run T Q (.ops os :: k) (put e d (.int .i64 (sumW c.past))) σ := r20_Weight_spec hc


theorem cut_weight_loop {f : SlF} {l : List Int} {σ : Sto} (hc : Fits l) : ∀ i, i ≤ l.length → ∀ n : Int,
    Run T (Res [.tmp 2] (.int .i64 ((l.drop i).foldl addW n))) (.inLoop cut_weight.b0 :: cut_weight.k0) (mkE 18 [(3, .int .i64 n), (7, ints f l), (8, .int .i64 l.length), (9, .int .i64 i)]) σ := by
  refine up_ind ?_ fun i hi ih n => ?_
  · intro n
    rw [run_round, run_unfold cut_weight.b0.eq_1]
    simp (maxSteps := 2000000) only [go_sem, run_unfold cut_weight.c0.eq_1, run_unfold cut_weight.c1.eq_1, cut_weight.k0, List.drop_length, List.foldl_nil]
  · rw [run_round, run_unfold cut_weight.b0.eq_1]
    rw [List.drop_eq_getElem_cons hi]
    simp (maxSteps := 2000000) only [go_sem, hi, List.foldl_cons, wrap_succ (show i < 9223372036854775807 by omega)]
    exact ih _

theorem cut_weight_spec {c : Com} (hc : Fits c.past) {lv : List Nat} {σ : Sto} {R : Post} : Cw T true i_cut_weight [encC c] lv σ R ↔ R (.int .i64 (sumW c.past)) σ := by
  refine cw_intro T_cut_weight (by simp only [go_sem]) (by simp) ?_; rw [run_unfold cut_weight.main.eq_1]
  simp (maxSteps := 2000000) only [go_sem]
  exact cut_weight_loop hc 0 (by omega) 0
@[go_sem] theorem cut_weight_call {c : Com} (hc : Fits c.past) {Q : Post3} {k : List Item} {os : List AOper} {d : Option Nat} {e : Env} {σ : Sto} : CallK T Q k os d e σ true i_cut_weight [encC c] ↔ Run T Q (.ops os :: k) (put e d (.int .i64 (sumW c.past))) σ := cut_weight_spec hc


theorem cmp_isNaN_int_spec {n : Int} {lv : List Nat} {σ : Sto} {R : Post} : Cw T true i_cmp_isNaN_int [.int .i64 n] lv σ R ↔ R (.bool false) σ := by
  refine cw_intro T_cmp_isNaN_int (by simp only [go_sem]) (by simp) ?_; rw [run_unfold cmp_isNaN_int.main.eq_1]
  simp (maxSteps := 2000000) only [go_sem]
@[go_sem] theorem cmp_isNaN_int_call {n : Int} {Q : Post3} {k : List Item} {os : List AOper} {d : Option Nat} {e : Env} {σ : Sto} : CallK T Q k os d e σ true i_cmp_isNaN_int [.int .i64 n] ↔ Run T Q (.ops os :: k) (put e d (.bool false)) σ := cmp_isNaN_int_spec


def cmpI (a b : Int) : Int := if a < b then -1 else if b < a then 1 else 0

theorem cmp_Compare_int_spec {a b : Int} {lv : List Nat} {σ : Sto} {R : Post} : Cw T true i_cmp_Compare_int [.int .i64 a, .int .i64 b] lv σ R ↔ R (.int .i64 (cmpI a b)) σ := by
  refine cw_intro T_cmp_Compare_int (by simp only [go_sem]) (by simp) ?_; rw [run_unfold cmp_Compare_int.main.eq_1]
  simp (maxSteps := 2000000) only [go_sem, cmpI]
  by_cases h : a < b
  · simp (maxSteps := 2000000) only [go_sem, h]
  · simp (maxSteps := 2000000) only [go_sem, h]
    by_cases h2 : b < a
    · simp (maxSteps := 2000000) only [go_sem, h2]
    · simp (maxSteps := 2000000) only [go_sem, h2]
@[go_sem] theorem cmp_Compare_int_call {a b : Int} {Q : Post3} {k : List Item} {os : List AOper} {d : Option Nat} {e : Env} {σ : Sto} : CallK T Q k os d e σ true i_cmp_Compare_int [.int .i64 a, .int .i64 b] ↔ Run T Q (.ops os :: k) (put e d (.int .i64 (cmpI a b))) σ := cmp_Compare_int_spec

end Go.Abs
/- Walks of chapter 20: cuts and lists. -/
set_option linter.unusedSimpArgs false
set_option linter.unusedVariables false
namespace Go.Abs
open Go
attribute [local go_sem_proc] Nat.reduceLT Nat.reduceEqDiff Nat.reduceLeDiff Nat.reduceAdd Nat.reduceSub Nat.reduceMul Int.reduceLT Int.reduceLE Int.reduceEq Int.reduceNeg
attribute [local go_sem_proc ↓] reduceIte

theorem r20_Zero_spec  {lv : List Nat} {σ : Sto} {R : Post} : Cw T true i_r20_Zero [] lv σ R ↔ R (ints .lst [0, 0, 0, 0, 0, 0]) σ := by
  refine cw_intro T_r20_Zero (by simp only [go_sem]) (by simp) ?_; rw [run_unfold r20_Zero.main.eq_1]
  simp (maxSteps := 2000000) only [go_sem]
  rw [show mksliceV 1 8 [AVal.int IntKind.i64 0] (AVal.int IntKind.i64 6) (AVal.int IntKind.i64 6) [] = some (.ref 0 6 0 6 1, [.cells false [int 0, int 0, int 0, int 0, int 0, int 0]]) from rfl]
  simp (maxSteps := 2000000) only [go_sem]
  exact snap_ints (c := [0, 0, 0, 0, 0, 0]) rfl
@[go_sem] theorem r20_Zero_call  {Q : Post3} {k : List Item} {os : List AOper} {d : Option Nat} {e : Env} {σ : Sto} : CallK T Q k os d e σ true i_r20_Zero [] ↔ Run T Q (.ops os :: k) (put e d (ints .lst [0, 0, 0, 0, 0, 0])) σ := r20_Zero_spec


theorem r20_Same_loop {f g : SlF} {a b : List Int} (ha : Fits a) (hb : b.length = a.length) : ∀ i, i ≤ a.length →
    Run T (Res [.tmp 4] (.bool (decide (a.drop i = b.drop i)))) (.inLoop r20_Same.b0 :: r20_Same.k0) (mkE 26 [(0, ints f a), (1, ints g b), (5, .int .i64 i)]) [] := by
  refine up_ind ?_ fun i hi ih => ?_
  · rw [run_round, run_unfold r20_Same.b0.eq_1]
    simp (maxSteps := 2000000) only [go_sem, run_unfold r20_Same.c0.eq_1, run_unfold r20_Same.c1.eq_1, r20_Same.k0, List.drop_length, show b.drop a.length = [] by rw [← hb]; exact List.drop_length]
  · rw [run_round, run_unfold r20_Same.b0.eq_1]
    have h2 : i < b.length := by omega
    rw [List.drop_eq_getElem_cons hi, List.drop_eq_getElem_cons h2]
    simp (maxSteps := 2000000) only [go_sem, hi, h2, List.cons.injEq]
    by_cases h : a[i] = b[i]
    · simp (maxSteps := 2000000) only [go_sem, h, wrap_succ (show i < 9223372036854775807 by omega)]
      exact ih
    · simp (maxSteps := 2000000) only [go_sem, h]

theorem r20_Same_spec {f g : SlF} {a b : List Int} (ha : Fits a) {lv : List Nat} {σ : Sto} {R : Post} : Cw T true i_r20_Same [ints f a, ints g b] lv σ R ↔ R (.bool (decide (a = b))) σ := by
  refine cw_intro T_r20_Same (by simp only [go_sem]) (by simp) ?_; rw [run_unfold r20_Same.main.eq_1]
  simp (maxSteps := 2000000) only [go_sem]
  by_cases h : a.length = b.length
  · simp (maxSteps := 2000000) only [go_sem, h]
    exact r20_Same_loop ha h.symm 0 (by omega)
  · have h' : ¬ a = b := fun e => h (by rw [e])
    have h2 : ¬ ((a.length : Int) = (b.length : Int)) := by omega
    simp (maxSteps := 2000000) only [go_sem, h2, h']
@[go_sem] theorem r20_Same_call {f g : SlF} {a b : List Int} (ha : Fits a) {Q : Post3} {k : List Item} {os : List AOper} {d : Option Nat} {e : Env} {σ : Sto} : CallK T Q k os d e σ true i_r20_Same [ints f a, ints g b] ↔ Run T Q (.ops os :: k) (put e d (.bool (decide (a = b)))) σ := r20_Same_spec ha


/-- a cut with an error -/
structure Cut where
  f : SlF
  c : List Int
  e : Int
abbrev encU (u : Cut) : AVal := .agg [ints u.f u.c, .int .i64 u.e]

def cutOf (a b : List Int) (c : List Int) : Cut := if valid a && valid b then ⟨.lst, c, 0⟩ else ⟨.nil, [], 200⟩
def maxL (a b : List Int) : List Int := List.zipWith (fun x y => if x < y then y else x) a b
def minL (a b : List Int) : List Int := List.zipWith (fun x y => if y < x then y else x) a b

theorem drop_zipWith {α β γ : Type} {h : α → β → γ} {a : List α} {b : List β} {i : Nat} (h1 : i < a.length) (h2 : i < b.length) : (List.zipWith h a b).drop i = h a[i] b[i] :: (List.zipWith h a b).drop (i + 1) := by
  have : i < (List.zipWith h a b).length := by simp; omega
  rw [List.drop_eq_getElem_cons this]; simp

theorem r20_JoinIn_loop {f g : SlF} {a b : List Int} (ha : a.length = 6) (hb : b.length = 6) : ∀ i, i ≤ 6 → ∀ o : List Int, o.length = i →
    Run T (Res [.cell 4 true 2] (.agg [ints .lst (o ++ (maxL a b).drop i), .int .i64 0])) (.inLoop r20_JoinIn.b0 :: r20_JoinIn.k0) (mkE 37 [(0, ints f a), (1, ints g b), (4, .ptr 0 2 0), (5, .ref 1 o.length 0 o.length 1), (6, .int .i64 i)]) [.cells false [.nils, .int .i64 0], .cells false (o.map fun n => .int .i64 n)] := by
  refine up_ind ?_ fun i hi ih o ho => ?_
  · intro o ho
    rw [run_round, run_unfold r20_JoinIn.b0.eq_1]
    rw [List.drop_eq_nil_of_le (by simp [maxL]; omega)]
    simp (maxSteps := 2000000) only [go_sem, run_unfold r20_JoinIn.c0.eq_1, run_unfold r20_JoinIn.c1.eq_1, r20_JoinIn.k0, ha]
    rw [snap_ints (by rfl)]
    simp (maxSteps := 2000000) only [go_sem]
  · rw [run_round, run_unfold r20_JoinIn.b0.eq_1]
    have h1 : i < a.length := by omega
    have h2 : i < b.length := by omega
    simp (maxSteps := 2000000) only [go_sem, h1, h2]
    rw [appendV_push (by rfl) (by rfl) (by simp) rfl (by unfold maxBytes; omega)]
    simp (maxSteps := 2000000) only [go_sem, wrap_succ (show i < 9223372036854775807 by omega)]
    have := ih (o ++ [if a[i] < b[i] then b[i] else a[i]]) (by simp [ho])
    rw [maxL, drop_zipWith h1 h2, ← maxL]
    simpa using this

theorem r20_JoinIn_spec {f g : SlF} {a b : List Int} {lv : List Nat} {σ : Sto} {R : Post} : Cw T true i_r20_JoinIn [ints f a, ints g b] lv σ R ↔ R (encU (cutOf a b (maxL a b))) σ := by
  refine cw_intro T_r20_JoinIn (by simp only [go_sem]) (by simp) ?_; rw [run_unfold r20_JoinIn.main.eq_1]
  unfold cutOf
  cases ha : valid a
  case false => simp (maxSteps := 2000000) only [go_sem, ha]
  cases hb : valid b
  case false => simp (maxSteps := 2000000) only [go_sem, hb, ha]
  simp (maxSteps := 2000000) only [go_sem, ha, hb]
  exact r20_JoinIn_loop (valid_len ha) (valid_len hb) 0 (by omega) [] rfl

@[go_sem] theorem r20_JoinIn_call {f g : SlF} {a b : List Int} {Q : Post3} {k : List Item} {os : List AOper} {d : Option Nat} {e : Env} {σ : Sto} : CallK T Q k os d e σ true i_r20_JoinIn [ints f a, ints g b] ↔ Run T Q (.ops os :: k) (put e d (encU (cutOf a b (maxL a b)))) σ := r20_JoinIn_spec


theorem slices_Clone_int_spec {f : SlF} {c : List Int} (hc : c ≠ []) (hb : c.length * 8 ≤ maxBytes) {σ : Sto} {R : Post} : Cw T false i_slices_Clone_int [ints f c] [] σ R ↔ R (.ref σ.length c.length 0 c.length 1) (σ ++ [.cells false (c.map fun n => .int .i64 n)]) := by
  rw [cw_enter T_slices_Clone_int (by simp), run_unfold slices_Clone_int.main.eq_1]
  simp (maxSteps := 2000000) only [go_sem, eqnilV_sv (show (c.map fun n => AVal.int .i64 n) ≠ [] by simpa using hc)]
  rw [appendV_fresh get_last rowOf_ints (by simp) (by decide) (by simp [AVal.one]) hb]
  simp (maxSteps := 2000000) only [go_sem, set_last]

@[go_sem] theorem slices_Clone_int_call {f : SlF} {c : List Int} (hc : c ≠ []) (hb : c.length * 8 ≤ maxBytes) {Q : Post3} {k : List Item} {os : List AOper} {d : Option Nat} {e : Env} {σ : Sto} :
    CallK T Q k os d e σ false i_slices_Clone_int [ints f c] ↔ Run T Q (.ops os :: k) (put e d (.ref σ.length c.length 0 c.length 1)) (σ ++ [.cells false (c.map fun n => .int .i64 n)]) := callK_shared (slices_Clone_int_spec hc hb)

abbrev encT (u : Cut) : AVal := .tup [ints u.f u.c, .int .i64 u.e]

end Go.Abs
/- Walks of chapter 23: shares. -/
set_option linter.unusedSimpArgs false
set_option linter.unusedVariables false
namespace Go.Abs
open Go
attribute [local go_sem_proc] Nat.reduceLT Nat.reduceEqDiff Nat.reduceLeDiff Nat.reduceAdd Nat.reduceSub Nat.reduceMul Int.reduceLT Int.reduceLE Int.reduceEq Int.reduceNeg
attribute [local go_sem_proc ↓] reduceIte

def maxN : Int := 1000000000000000
def vgo : Int → List Int → Bool
  | _, [] => true
  | left, n :: r => decide (0 ≤ n) && decide (n ≤ left) && vgo (left - n) r
/-- shares that are valid -/
def svalid (s : List Int) : Bool := decide (s.length = 6) && vgo maxN s

theorem escrow_Valid_loop {f : SlF} {s : List Int} (hl : s.length = 6) : ∀ i, i ≤ s.length → ∀ left : Int, 0 ≤ left → left ≤ maxN →
    Run T (Res [.tmp 2] (.bool (vgo left (s.drop i)))) (.inLoop escrow_Valid.b0 :: escrow_Valid.k0) (mkE 26 [(3, .int .i64 left), (9, ints f s), (10, .int .i64 6), (11, .int .i64 i)]) [] := by
  refine up_ind ?_ fun i hi ih => ?_
  · intro left _ _
    rw [run_round, run_unfold escrow_Valid.b0.eq_1]
    simp (maxSteps := 2000000) only [go_sem, hl, run_unfold escrow_Valid.c0.eq_1, run_unfold escrow_Valid.c1.eq_1, escrow_Valid.k0, List.drop_of_length_le (show s.length ≤ 6 by omega), vgo]
  · intro left h1 h2
    rw [run_round, run_unfold escrow_Valid.b0.eq_1]
    rw [List.drop_eq_getElem_cons hi]
    have h6 : (i : Int) < 6 := by omega
    simp (maxSteps := 2000000) only [go_sem, hi, h6, vgo]
    by_cases h0 : s[i] < 0
    · simp (maxSteps := 2000000) only [go_sem, h0, Int.not_le.2 h0]
    · simp (maxSteps := 2000000) only [go_sem, h0, Int.not_lt.1 h0]
      by_cases h3 : left < s[i]
      · simp (maxSteps := 2000000) only [go_sem, h3, Int.not_le.2 h3]
      · have e : IntKind.i64.wrap (left - s[i]) = left - s[i] := wrap_i64 (by omega) (by unfold maxN at h2; omega)
        simp (maxSteps := 2000000) only [go_sem, h3, Int.not_lt.1 h3, wrap_succ (show i < 9223372036854775807 by omega), e]
        exact ih _ (by omega) (by unfold maxN at *; omega)

theorem escrow_Valid_spec {f : SlF} {s : List Int} {lv : List Nat} {σ : Sto} {R : Post} : Cw T true i_escrow_Valid [ints f s] lv σ R ↔ R (.bool (svalid s)) σ := by
  refine cw_intro T_escrow_Valid (by simp only [go_sem]) (by simp) ?_; rw [run_unfold escrow_Valid.main.eq_1]
  unfold svalid
  by_cases hl : (s.length : Int) = 6
  · have hl' : s.length = 6 := by omega
    simp (maxSteps := 2000000) only [go_sem, hl, hl']
    exact escrow_Valid_loop hl' 0 (by omega) maxN (by decide) (by decide)
  · have hl' : ¬ s.length = 6 := by omega
    simp (maxSteps := 2000000) only [go_sem, hl, hl']
@[go_sem] theorem escrow_Valid_call {f : SlF} {s : List Int} {Q : Post3} {k : List Item} {os : List AOper} {d : Option Nat} {e : Env} {σ : Sto} : CallK T Q k os d e σ true i_escrow_Valid [ints f s] ↔ Run T Q (.ops os :: k) (put e d (.bool (svalid s))) σ := escrow_Valid_spec


theorem vgo_bounds : ∀ {s : List Int} {left : Int}, vgo left s = true → ∀ n ∈ s, 0 ≤ n ∧ n ≤ left
  | [], _, _, n, hn => by simp at hn
  | a :: s, left, h, n, hn => by
    simp only [vgo, Bool.and_eq_true, decide_eq_true_eq] at h
    rcases List.mem_cons.1 hn with rfl | hn
    · exact ⟨h.1.1, h.1.2⟩
    · have := vgo_bounds h.2 n hn
      omega
theorem vgo_sum : ∀ {s : List Int} {left : Int}, 0 ≤ left → (vgo left s = true ↔ (∀ n ∈ s, 0 ≤ n) ∧ s.sum ≤ left)
  | [], left, h => by simp [vgo, h]
  | a :: s, left, h => by
    simp only [vgo, Bool.and_eq_true, decide_eq_true_eq, List.mem_cons, forall_eq_or_imp, List.sum_cons]
    constructor
    · rintro ⟨⟨h1, h2⟩, h3⟩
      have := (vgo_sum (s := s) (left := left - a) (by omega)).1 h3
      exact ⟨⟨h1, this.1⟩, by omega⟩
    · rintro ⟨⟨h1, h2⟩, h3⟩
      have hs : 0 ≤ s.sum := by
        clear h3
        induction s with
        | nil => simp
        | cons b s ih =>
          have := h2 b (by simp)
          have := ih fun n hn => h2 n (by simp [hn])
          simp; omega
      exact ⟨⟨h1, by omega⟩, (vgo_sum (s := s) (left := left - a) (by omega)).2 ⟨h2, by omega⟩⟩

theorem escrow_station_spec {n : Int} {lv : List Nat} {σ : Sto} {R : Post} : Cw T true i_escrow_station [.int .i64 n] lv σ R ↔ R (.bool (decide (0 ≤ n) && decide (n < 6))) σ := by
  refine cw_intro T_escrow_station (by simp only [go_sem]) (by simp) ?_; rw [run_unfold escrow_station.main.eq_1]
  by_cases h : 0 ≤ n
  · simp (maxSteps := 2000000) only [go_sem, h]
  · simp (maxSteps := 2000000) only [go_sem, h]
@[go_sem] theorem escrow_station_call {n : Int} {Q : Post3} {k : List Item} {os : List AOper} {d : Option Nat} {e : Env} {σ : Sto} : CallK T Q k os d e σ true i_escrow_station [.int .i64 n] ↔ Run T Q (.ops os :: k) (put e d (.bool (decide (0 ≤ n) && decide (n < 6)))) σ := escrow_station_spec


@[go_sem] theorem nilckV_ptr {o g f : Nat} {σ : Sto} : nilckV (.ptr o g f) σ = some (.ptr o g f, σ) := rfl
@[go_sem] theorem iaddrAV_ptr {c m o gen off i : Nat} {kd : IntKind} {σ : Sto} : iaddrAV c m (.ptr o gen off) (.int kd (i : Int)) σ = if i < c then some (.ptr o gen (off + i * m), σ) else none := by
  simp only [iaddrAV, natOf_nat]

/-- what taking leaves -/
def takeP (x : List Int) (st v : Int) : Option (List Int) :=
  if 0 ≤ st ∧ st < 6 ∧ 1 ≤ v ∧ v ≤ x.getD st.toNat 0 then some (x.set st.toNat (x.getD st.toNat 0 - v)) else none

abbrev cellsI (x : List Int) : AObj := .cells false (x.map fun n => .int .i64 n)
theorem set_sameI {σ : Sto} {o : Nat} {a : AObj} (h : σ[o]? = some a) : σ.set o a = σ := by
  obtain ⟨h1, h2⟩ := List.getElem?_eq_some_iff.1 h
  subst h2
  exact List.set_getElem_self h1

theorem stock_take {x : List Int} (hx : x.length = 6) (hb : ∀ n ∈ x, 0 ≤ n ∧ n ≤ maxN) {o : Nat} {σ : Sto} (ho : σ[o]? = some (cellsI x)) {st to v : Int} {R : Post} :
    Cw T false i_escrow_stock_take [.ptr o 6 0, .int .i64 st, .int .i64 to, .int .i64 v] [] σ R ↔ R (.bool (takeP x st v).isSome) (σ.set o (cellsI ((takeP x st v).getD x))) := by
  rw [cw_enter T_escrow_stock_take (by simp), run_unfold escrow_stock_take.main.eq_1]
  unfold takeP
  have hs := set_sameI ho
  by_cases h1 : 0 ≤ st
  case neg => simp (maxSteps := 2000000) only [go_sem, h1, false_and, Option.isSome_none, Option.getD_none, hs]
  by_cases h2 : st < 6
  case neg => simp (maxSteps := 2000000) only [go_sem, h1, h2, false_and, and_false, Option.isSome_none, Option.getD_none, hs]
  obtain ⟨n, rfl⟩ := Int.eq_ofNat_of_zero_le h1
  have hn : n < x.length := by omega
  have hn6 : n < 6 := by omega
  have hn5 : n ≤ 5 := by omega
  have hg : x.getD n 0 = x[n] := by rw [List.getD_eq_getElem?_getD, List.getElem?_eq_getElem hn]; rfl
  have hbn := hb x[n] (List.getElem_mem hn)
  by_cases h3 : v < 1
  case pos => simp (maxSteps := 2000000) only [go_sem, h1, h2, h3, show ¬ (1 ≤ v) by omega, false_and, and_false, Option.isSome_none, Option.getD_none, hs]
  by_cases h4 : x[n] < v
  case pos => simp (maxSteps := 2000000) only [go_sem, h1, h2, h3, h4, hg, hn6, hn, ho, hx, Int.toNat_natCast, show ¬ (v ≤ x[n]) by omega, false_and, and_false, Option.isSome_none, Option.getD_none, hs]
  have e : IntKind.i64.wrap (x[n] - v) = x[n] - v := wrap_i64 (by unfold maxN at *; omega) (by unfold maxN at *; omega)
  simp (maxSteps := 2000000) only [go_sem, h1, h2, h3, h4, hg, hn6, hn5, hn, ho, hx, e, Int.toNat_natCast, show (1 ≤ v) by omega, show (v ≤ x[n]) by omega, Option.isSome_some, Option.getD_some]

def grantP (x : List Int) (st to v : Int) : Option (List Int) :=
  if 0 ≤ to ∧ to < 6 ∧ to ≠ st then (takeP x st v).map fun y => y.set to.toNat (y.getD to.toNat 0 + v) else none

/-- shares that stay shares -/
structure Good (x : List Int) : Prop where
  len : x.length = 6
  pos : ∀ n ∈ x, 0 ≤ n
  sum : x.sum ≤ maxN
theorem svalid_good {x : List Int} : svalid x = true ↔ Good x := by
  simp only [svalid, Bool.and_eq_true, decide_eq_true_eq, vgo_sum (show (0 : Int) ≤ maxN by decide)]
  exact ⟨fun h => ⟨h.1, h.2.1, h.2.2⟩, fun h => ⟨h.len, h.pos, h.sum⟩⟩
theorem Good.bnd {x : List Int} (h : Good x) : ∀ n ∈ x, 0 ≤ n ∧ n ≤ maxN := by
  have := svalid_good.2 h
  simp only [svalid, Bool.and_eq_true] at this
  exact vgo_bounds this.2
theorem sum_set : ∀ {x : List Int} {i : Nat} (h : i < x.length) (a : Int), (x.set i a).sum = x.sum - x[i] + a
  | y :: x, 0, _, a => by simp; omega
  | y :: x, i + 1, h, a => by
    have h' : i < x.length := by simpa using h
    have := sum_set h' a
    simp only [List.set_cons_succ, List.sum_cons, List.getElem_cons_succ, this]
    omega
theorem getD_get {x : List Int} {i : Nat} (h : i < x.length) : x.getD i 0 = x[i] := by rw [List.getD_eq_getElem?_getD, List.getElem?_eq_getElem h]; rfl

theorem takeP_some {x y : List Int} {st v : Int} (h : takeP x st v = some y) : 0 ≤ st ∧ st < 6 ∧ 1 ≤ v ∧ v ≤ x.getD st.toNat 0 ∧ y = x.set st.toNat (x.getD st.toNat 0 - v) := by
  unfold takeP at h
  split at h
  · rename_i hc; exact ⟨hc.1, hc.2.1, hc.2.2.1, hc.2.2.2, (Option.some.inj h).symm⟩
  · simp at h
theorem takeP_good {x y : List Int} {st v : Int} (hx : Good x) (h : takeP x st v = some y) : Good y := by
  obtain ⟨h1, h2, h3, h4, rfl⟩ := takeP_some h
  have hi : st.toNat < x.length := by have := hx.len; omega
  rw [getD_get hi] at h4 ⊢
  refine ⟨by simpa using hx.len, fun n hn => ?_, ?_⟩
  · rcases List.mem_or_eq_of_mem_set hn with hn | rfl
    · exact hx.pos n hn
    · omega
  · have := sum_set hi (x[st.toNat] - v)
    have := hx.sum
    omega
theorem grantP_some {x y : List Int} {st to v : Int} (h : grantP x st to v = some y) : 0 ≤ to ∧ to < 6 ∧ to ≠ st ∧ ∃ z, takeP x st v = some z ∧ y = z.set to.toNat (z.getD to.toNat 0 + v) := by
  unfold grantP at h
  split at h
  · rename_i hc
    simp only [Option.map_eq_some_iff] at h
    obtain ⟨z, h1, h2⟩ := h
    exact ⟨hc.1, hc.2.1, hc.2.2, z, h1, h2.symm⟩
  · simp at h
theorem takeP_sum {x y : List Int} {st v : Int} (hx : Good x) (h : takeP x st v = some y) : y.sum = x.sum - v := by
  obtain ⟨h1, h2, h3, h4, rfl⟩ := takeP_some h
  have hi : st.toNat < x.length := by have := hx.len; omega
  rw [getD_get hi, sum_set hi]
  omega
theorem grantP_sum {x y : List Int} {st to v : Int} (hx : Good x) (h : grantP x st to v = some y) : y.sum = x.sum := by
  obtain ⟨h1, h2, h3, z, h4, rfl⟩ := grantP_some h
  have hz := takeP_good hx h4
  have hi : to.toNat < z.length := by have := hz.len; omega
  rw [getD_get hi, sum_set hi, takeP_sum hx h4]
  omega
theorem grantP_good {x y : List Int} {st to v : Int} (hx : Good x) (h : grantP x st to v = some y) : Good y := by
  have hs := grantP_sum hx h
  obtain ⟨h1, h2, h3, z, h4, rfl⟩ := grantP_some h
  have hz := takeP_good hx h4
  have hv := (takeP_some h4).2.2.1
  have hi : to.toNat < z.length := by have := hz.len; omega
  refine ⟨by simpa using hz.len, fun n hn => ?_, by rw [hs]; exact hx.sum⟩
  rcases List.mem_or_eq_of_mem_set hn with hn | rfl
  · exact hz.pos n hn
  · rw [getD_get hi]
    have := hz.pos z[to.toNat] (List.getElem_mem hi)
    omega

theorem stock_grant {x : List Int} (hx : Good x) {o : Nat} {σ : Sto} (ho : σ[o]? = some (cellsI x)) {st to v : Int} {R : Post} :
    Cw T false i_escrow_stock_grant [.ptr o 6 0, .int .i64 st, .int .i64 to, .int .i64 v] [] σ R ↔ R (.bool (grantP x st to v).isSome) (σ.set o (cellsI ((grantP x st to v).getD x))) := by
  rw [cw_enter T_escrow_stock_grant (by simp), run_unfold escrow_stock_grant.main.eq_1]
  have hs := set_sameI ho
  have ht := fun (Q : Post3) (k : List Item) (os : List AOper) (d : Option Nat) (e : Env) => callK_shared (T := T) (Q := Q) (k := k) (os := os) (d := d) (e := e) (stock_take hx.len hx.bnd ho (st := st) (to := to) (v := v))
  unfold grantP
  by_cases h1 : 0 ≤ to
  case neg => simp (maxSteps := 2000000) only [go_sem, h1, false_and, Option.isSome_none, Option.getD_none, hs]
  by_cases h2 : to < 6
  case neg => simp (maxSteps := 2000000) only [go_sem, h1, h2, false_and, and_false, Option.isSome_none, Option.getD_none, hs]
  by_cases h3 : to = st
  case pos => subst h3; simp (maxSteps := 2000000) only [go_sem, h1, h2, false_and, and_false, Option.isSome_none, Option.getD_none, hs, not_true_eq_false]
  cases hp : takeP x st v with
  | none =>
    rw [hp] at ht
    simp (maxSteps := 2000000) only [go_sem, h1, h2, h3, ht, hs, Option.map_none, Option.isSome_none, Option.getD_none, not_false_eq_true, and_true]
  | some z =>
    rw [hp] at ht
    have hz := takeP_good hx hp
    have hv := (takeP_some hp).2.2.1
    obtain ⟨n, rfl⟩ := Int.eq_ofNat_of_zero_le h1
    have hn : n < z.length := by have := hz.len; omega
    have hn5 : n ≤ 5 := by omega
    have hn6 : n < 6 := by omega
    have hbn := hz.bnd z[n] (List.getElem_mem hn)
    have hsz := takeP_sum hx hp
    have hlt : o < σ.length := (List.getElem?_eq_some_iff.1 ho).1
    have e : IntKind.i64.wrap (z[n] + v) = z[n] + v := by
      have h4 := (takeP_some hp).2.2.2.1
      have hi : st.toNat < x.length := by have := hx.len; have := takeP_some hp; omega
      have hb := hx.bnd x[st.toNat] (List.getElem_mem hi)
      rw [getD_get hi] at h4
      exact wrap_i64 (by unfold maxN at *; omega) (by unfold maxN at *; omega)
    simp (maxSteps := 2000000) only [go_sem, h1, h2, h3, ht, Option.isSome_some, Option.getD_some, List.getElem?_set_self hlt, List.set_set, hn, hn5, hn6, hz.len, e, getD_get hn, Int.toNat_natCast, Option.map_some, not_false_eq_true, and_true]
end Go.Abs
/- Walks of chapter 23: taking, granting, doing. -/
set_option linter.unusedSimpArgs false
set_option linter.unusedVariables false
namespace Go.Abs
open Go
attribute [local go_sem_proc] Nat.reduceLT Nat.reduceEqDiff Nat.reduceLeDiff Nat.reduceAdd Nat.reduceSub Nat.reduceMul Int.reduceLT Int.reduceLE Int.reduceEq Int.reduceNeg
attribute [local go_sem_proc ↓] reduceIte

theorem six {s : List Int} (h : s.length = 6) : ∃ a b c d e f, s = [a, b, c, d, e, f] := by
  match s, h with
  | [a, b, c, d, e, f], _ => exact ⟨a, b, c, d, e, f, rfl⟩

/-- a change of a copy: tried -/
theorem escrow_try_bad {f : SlF} {s : List Int} (hs : svalid s = false) {g : FuncId} {fs cs : List AVal} {σ : Sto} {R : Post} :
    Cw T false i_escrow_try [ints f s, .clo (.func g) fs cs] [] σ R ↔ R (.tup [.nils, .int .i64 230]) σ := by
  rw [cw_enter T_escrow_try (by simp), run_unfold escrow_try.main.eq_1]
  simp (maxSteps := 2000000) only [go_sem, hs]

theorem escrow_try_good {f : SlF} {s : List Int} (hs : svalid s = true) {g : FuncId} {fs cs : List AVal} {σ : Sto} {b : Bool} {y : List Int} (hy : y.length = 6)
    (hg : ∀ {R : Post}, Cw T false g (fs ++ [.ptr σ.length 6 0] ++ cs) [] (σ ++ [cellsI s]) R ↔ R (.bool b) (σ ++ [cellsI y])) {R : Post} :
    Cw T false i_escrow_try [ints f s, .clo (.func g) fs cs] [] σ R ↔ R (if b then .tup [.ref σ.length 6 0 6 1, .int .i64 0] else .tup [.nils, .int .i64 230]) (σ ++ [cellsI y]) := by
  rw [cw_enter T_escrow_try (by simp), run_unfold escrow_try.main.eq_1]
  have hG := svalid_good.1 hs
  obtain ⟨a1, a2, a3, a4, a5, a6, rfl⟩ := six hG.len
  have hf : ints f [a1, a2, a3, a4, a5, a6] = .list 1 [.int .i64 a1, .int .i64 a2, .int .i64 a3, .int .i64 a4, .int .i64 a5, .int .i64 a6] := rfl
  have ha : arrpV 6 1 (ints f [a1, a2, a3, a4, a5, a6]) σ = some (.fptr [.int .i64 a1, .int .i64 a2, .int .i64 a3, .int .i64 a4, .int .i64 a5, .int .i64 a6], σ) := by rw [hf]; rfl
  have hk := fun (Q : Post3) (k : List Item) (os : List AOper) (d : Option Nat) (e : Env) => callK_shared (T := T) (Q := Q) (k := k) (os := os) (d := d) (e := e) hg
  simp only [cellsI, List.map_cons, List.map_nil] at hk
  simp (maxSteps := 2000000) only [go_sem, hs, ha, get_last, set_last]
  rw [hk]
  obtain ⟨b1, b2, b3, b4, b5, b6, rfl⟩ := six hy
  cases b
  · simp (maxSteps := 2000000) only [go_sem, cellsI, List.map_cons, List.map_nil]
  · have hl : slarrV 6 1 (.ptr σ.length 6 0) none none (σ ++ [cellsI [b1, b2, b3, b4, b5, b6]]) = some (.ref σ.length 6 0 6 1, σ ++ [cellsI [b1, b2, b3, b4, b5, b6]]) := by
      simp [slarrV, bnd]
    simp only [cellsI, List.map_cons, List.map_nil] at hl
    simp (maxSteps := 2000000) only [go_sem, hl, cellsI, List.map_cons, List.map_nil]

/-- what a try leaves -/
def gotA (r : Option (List Int)) : AVal := match r with
  | some y => .tup [ints .lst y, .int .i64 0]
  | none => .tup [.nils, .int .i64 230]

theorem snap6 {σ : Sto} {y : List Int} {o : Nat} (hy : y.length = 6) (ho : σ[o]? = some (cellsI y)) : snapA σ 63 (.ref o 6 0 6 1) = some (ints .lst y) := by
  have h := snap_ints (n := 61) (σ := σ) (o := o) (c := y) ho
  rwa [hy] at h

abbrev box1 (n : Int) : AObj := .cells false [.int .i64 n]
theorem take_1 {s : List Int} (hs : Good s) {st v : Int} {R : Post} : Cw T false i_escrow_Take_1 ([] ++ [.ptr [box1 st, box1 v].length 6 0] ++ [.ptr 0 1 0, .ptr 1 1 0]) [] ([box1 st, box1 v] ++ [cellsI s]) R ↔
    R (.bool (takeP s st v).isSome) ([box1 st, box1 v] ++ [cellsI ((takeP s st v).getD s)]) := by
  simp only [List.nil_append, List.cons_append, List.length_cons, List.length_nil, Nat.zero_add, Nat.reduceAdd]
  rw [cw_enter T_escrow_Take_1 (by simp), run_unfold escrow_Take_1.main.eq_1]
  simp (maxSteps := 2000000) only [go_sem, callK_shared (stock_take hs.len hs.bnd (σ := [box1 st, box1 v, cellsI s]) (o := 2) rfl)]

theorem takeP_good' {s : List Int} (hs : Good s) {st v : Int} : Good ((takeP s st v).getD s) := by
  cases h : takeP s st v with
  | none => exact hs
  | some y => exact takeP_good hs h
theorem grantP_good' {s : List Int} (hs : Good s) {st to v : Int} : Good ((grantP s st to v).getD s) := by
  cases h : grantP s st to v with
  | none => exact hs
  | some y => exact grantP_good hs h

theorem escrow_Take_spec {f : SlF} {s : List Int} {st v : Int} {lv : List Nat} {σ : Sto} {R : Post} : Cw T true i_escrow_Take [ints f s, .int .i64 st, .int .i64 v] lv σ R ↔ R (gotA (if svalid s then takeP s st v else none)) σ := by
  refine cw_intro T_escrow_Take (by simp only [go_sem]) (by simp) ?_; rw [run_unfold escrow_Take.main.eq_1]
  cases hs : svalid s
  · simp (maxSteps := 2000000) only [go_sem, callK_shared (escrow_try_bad hs), gotA]
  · have hG := svalid_good.1 hs
    have hy := takeP_good' hG (st := st) (v := v)
    simp (maxSteps := 2000000) only [go_sem, callK_shared (escrow_try_good hs hy.len (take_1 hG))]
    cases hp : takeP s st v with
    | none => simp (maxSteps := 2000000) only [go_sem, hp, gotA, Option.isSome_none]
    | some y =>
      rw [hp] at hy
      simp (maxSteps := 2000000) only [go_sem, hp, gotA, Option.isSome_some, Option.getD_some, snap6 hy.len (show [box1 st, box1 v, cellsI y][2]? = _ from rfl)]
@[go_sem] theorem escrow_Take_call {f : SlF} {s : List Int} {st v : Int} {Q : Post3} {k : List Item} {os : List AOper} {d : Option Nat} {e : Env} {σ : Sto} : CallK T Q k os d e σ true i_escrow_Take [ints f s, .int .i64 st, .int .i64 v] ↔ Run T Q (.ops os :: k) (put e d (gotA (if svalid s then takeP s st v else none))) σ := escrow_Take_spec


theorem grant_1 {s : List Int} (hs : Good s) {st to v : Int} {R : Post} : Cw T false i_escrow_Grant_1 ([] ++ [.ptr [box1 st, box1 to, box1 v].length 6 0] ++ [.ptr 0 1 0, .ptr 1 1 0, .ptr 2 1 0]) [] ([box1 st, box1 to, box1 v] ++ [cellsI s]) R ↔
    R (.bool (grantP s st to v).isSome) ([box1 st, box1 to, box1 v] ++ [cellsI ((grantP s st to v).getD s)]) := by
  simp only [List.nil_append, List.cons_append, List.length_cons, List.length_nil, Nat.zero_add, Nat.reduceAdd]
  rw [cw_enter T_escrow_Grant_1 (by simp), run_unfold escrow_Grant_1.main.eq_1]
  simp (maxSteps := 2000000) only [go_sem, callK_shared (stock_grant hs (σ := [box1 st, box1 to, box1 v, cellsI s]) (o := 3) rfl)]

theorem escrow_Grant_spec {f : SlF} {s : List Int} {st to v : Int} {lv : List Nat} {σ : Sto} {R : Post} : Cw T true i_escrow_Grant [ints f s, .int .i64 st, .int .i64 to, .int .i64 v] lv σ R ↔ R (gotA (if svalid s then grantP s st to v else none)) σ := by
  refine cw_intro T_escrow_Grant (by simp only [go_sem]) (by simp) ?_; rw [run_unfold escrow_Grant.main.eq_1]
  cases hs : svalid s
  · simp (maxSteps := 2000000) only [go_sem, callK_shared (escrow_try_bad hs), gotA]
  · have hG := svalid_good.1 hs
    have hy := grantP_good' hG (st := st) (to := to) (v := v)
    simp (maxSteps := 2000000) only [go_sem, callK_shared (escrow_try_good hs hy.len (grant_1 hG))]
    cases hp : grantP s st to v with
    | none => simp (maxSteps := 2000000) only [go_sem, hp, gotA, Option.isSome_none]
    | some y =>
      rw [hp] at hy
      simp (maxSteps := 2000000) only [go_sem, hp, gotA, Option.isSome_some, Option.getD_some, snap6 hy.len (show [box1 st, box1 to, box1 v, cellsI y][3]? = _ from rfl)]
@[go_sem] theorem escrow_Grant_call {f : SlF} {s : List Int} {st to v : Int} {Q : Post3} {k : List Item} {os : List AOper} {d : Option Nat} {e : Env} {σ : Sto} : CallK T Q k os d e σ true i_escrow_Grant [ints f s, .int .i64 st, .int .i64 to, .int .i64 v] ↔ Run T Q (.ops os :: k) (put e d (gotA (if svalid s then grantP s st to v else none))) σ := escrow_Grant_spec

end Go.Abs
/- Walks of chapter 23: commits that are done. -/
set_option linter.unusedSimpArgs false
set_option linter.unusedVariables false
namespace Go.Abs
open Go
attribute [local go_sem_proc] Nat.reduceLT Nat.reduceEqDiff Nat.reduceLeDiff Nat.reduceAdd Nat.reduceSub Nat.reduceMul Int.reduceLT Int.reduceLE Int.reduceEq Int.reduceNeg
attribute [local go_sem_proc ↓] reduceIte

/-- an operation; keys and rows are left open -/
structure Opr where
  kind : Int
  tbl : Int
  col : Int
  to : Int
  key : AVal
  row : AVal
  vk : Int
  vi : Int
  vs : ByteArray
  k1 : key.one = true
  k2 : key.pure = true
  r1 : row.one = true
  r2 : row.pure = true
theorem one_cells {v : AVal} (h : v.one = true) : v.cells = [v] := by
  cases v <;> simp [AVal.one] at h <;> rfl
theorem one_fits {v : AVal} (h : v.one = true) : v.fits 1 = true := by
  cases v <;> simp [AVal.one] at h <;> rfl
theorem one_isUnd {v : AVal} (h : v.one = true) : v.isUnd = false := by
  cases v <;> simp [AVal.one] at h <;> rfl
@[go_sem] theorem Opr.one_k (o : Opr) : o.key.one = true := o.k1
@[go_sem] theorem Opr.one_r (o : Opr) : o.row.one = true := o.r1
@[go_sem] theorem Opr.names_k (o : Opr) (p : Nat → Bool) : o.key.names p = true := names_pure _ o.k2
@[go_sem] theorem Opr.names_r (o : Opr) (p : Nat → Bool) : o.row.names p = true := names_pure _ o.r2
@[go_sem] theorem Opr.cells_k (o : Opr) : o.key.cells = [o.key] := one_cells o.k1
@[go_sem] theorem Opr.cells_r (o : Opr) : o.row.cells = [o.row] := one_cells o.r1
abbrev encO (o : Opr) : List AVal := [.int .i64 o.kind, .int .i64 o.tbl, .int .i64 o.col, .int .i64 o.to, o.key, o.row, .int .i64 o.vk, .int .i64 o.vi, .str o.vs]
abbrev oprs (f : SlF) (l : List Opr) : AVal := sv 9 f (l.map fun o => .agg (encO o))

/-- a commit with its operations -/
structure Cm where
  st : Int
  seq : Int
  pf : SlF
  past : List Int
  ver : Int
  f : SlF
  ops : List Opr
def Cm.com (c : Cm) : Com := ⟨c.st, c.seq, c.pf, c.past, c.ver, oprs c.f c.ops, sv_one, sv_pure⟩
abbrev cellsM (c : Cm) : List AVal := [.int .i64 c.st, .int .i64 c.seq, ints c.pf c.past, .int .i64 c.ver, oprs c.f c.ops]
abbrev encM (c : Cm) : AVal := .agg (cellsM c)

/-- one operation of a station -/
def opP (st : Int) (x : List Int) (o : Opr) : Option (List Int) :=
  if o.vk = 2 then (if o.kind = 5 then takeP x st o.vi else if o.kind = 6 then grantP x st o.to o.vi else none) else none
def opsP (st : Int) : List Opr → List Int → Option (List Int)
  | [], x => some x
  | o :: r, x => (opP st x o).bind fun y => opsP st r y
theorem opP_good {st : Int} {x y : List Int} {o : Opr} (hx : Good x) (h : opP st x o = some y) : Good y := by
  unfold opP at h
  split at h
  · split at h
    · exact takeP_good hx h
    · split at h
      · exact grantP_good hx h
      · simp at h
  · simp at h
theorem opsP_good {st : Int} : ∀ {l : List Opr} {x y : List Int}, Good x → opsP st l x = some y → Good y
  | [], x, y, hx, h => by cases h; exact hx
  | o :: r, x, y, hx, h => by
    simp only [opsP, Option.bind_eq_some_iff] at h
    obtain ⟨z, h1, h2⟩ := h
    exact opsP_good (opP_good hx h1) h2

theorem look_5 {z : AVal} {σ : Sto} {n : Int} (h : n = 5) : lookupV (.int .i64) z true (.fmap [.int .i64 5, .int .i64 6] [.clo (.func i_escrow_stock_take) [] [], .clo (.func i_escrow_stock_grant) [] []]) (.int .i64 n) σ = some (.tup [.clo (.func i_escrow_stock_take) [] [], .bool true], σ) := by subst h; rfl
theorem look_6 {z : AVal} {σ : Sto} {n : Int} (h : n = 6) : lookupV (.int .i64) z true (.fmap [.int .i64 5, .int .i64 6] [.clo (.func i_escrow_stock_take) [] [], .clo (.func i_escrow_stock_grant) [] []]) (.int .i64 n) σ = some (.tup [.clo (.func i_escrow_stock_grant) [] [], .bool true], σ) := by subst h; rfl
theorem look_no {z : AVal} {σ : Sto} {n : Int} (h5 : ¬ n = 5) (h6 : ¬ n = 6) : lookupV (.int .i64) z true (.fmap [.int .i64 5, .int .i64 6] [.clo (.func i_escrow_stock_take) [] [], .clo (.func i_escrow_stock_grant) [] []]) (.int .i64 n) σ = some (.tup [z, .bool false], σ) := by
  have e5 : (n == 5) = false := by simpa using h5
  have e6 : (n == 6) = false := by simpa using h6
  simp [lookupV, lookAV, eqA, findA, e5, e6]

theorem set_one {a b c d : AObj} : [a, b, c].set 1 d = [a, d, c] := rfl

theorem Do_1_loop {c : Cm} (hc : Fits c.ops) : ∀ i, i ≤ c.ops.length → ∀ {x : List Int}, Good x →
    match opsP c.st (c.ops.drop i) x with
    | some y => ∀ {R : Post}, Run T (Ret [.tmp 3] R) (.inLoop escrow_Do_1.b0 :: escrow_Do_1.k0) (mkE 49 [(0, .ptr 1 6 0), (1, .ptr 0 5 0), (9, oprs c.f c.ops), (10, .int .i64 c.ops.length), (11, .int .i64 i)]) [.cells false (cellsM c), cellsI x] ↔ R (.bool (decide (0 ≤ c.st) && decide (c.st < 6))) [.cells false (cellsM c), cellsI y]
    | none => ∃ τ, ∀ {R : Post}, Run T (Ret [.tmp 3] R) (.inLoop escrow_Do_1.b0 :: escrow_Do_1.k0) (mkE 49 [(0, .ptr 1 6 0), (1, .ptr 0 5 0), (9, oprs c.f c.ops), (10, .int .i64 c.ops.length), (11, .int .i64 i)]) [.cells false (cellsM c), cellsI x] ↔ R (.bool false) τ := by
  refine up_ind ?_ fun i hi ih => ?_
  · intro x hx
    rw [List.drop_length, opsP]
    intro R
    rw [run_round, run_unfold escrow_Do_1.b0.eq_1]
    simp (maxSteps := 2000000) only [go_sem, Nat.lt_irrefl, run_unfold escrow_Do_1.c0.eq_1, run_unfold escrow_Do_1.c1.eq_1, escrow_Do_1.k0]
  · intro x hx
    rw [List.drop_eq_getElem_cons hi, opsP, opP]
    have hw := wrap_succ (n := i) (by have : Fits c.ops := hc; unfold Fits at this; omega)
    have htk := fun (Q : Post3) (k : List Item) (os : List AOper) (d : Option Nat) (e : Env) => callK_shared (T := T) (Q := Q) (k := k) (os := os) (d := d) (e := e) (stock_take hx.len hx.bnd (σ := [.cells false (cellsM c), cellsI x, .cells false (encO c.ops[i])]) (o := 1) rfl (st := c.st) (to := c.ops[i].to) (v := c.ops[i].vi))
    have hgr := fun (Q : Post3) (k : List Item) (os : List AOper) (d : Option Nat) (e : Env) => callK_shared (T := T) (Q := Q) (k := k) (os := os) (d := d) (e := e) (stock_grant hx (σ := [.cells false (cellsM c), cellsI x, .cells false (encO c.ops[i])]) (o := 1) rfl (st := c.st) (to := c.ops[i].to) (v := c.ops[i].vi))
    by_cases hv : c.ops[i].vk = 2
    case neg =>
      rw [if_neg hv, Option.bind_none]
      refine ⟨[.cells false (cellsM c), cellsI x, .cells false (encO c.ops[i])], fun {R} => ?_⟩
      rw [run_round, run_unfold escrow_Do_1.b0.eq_1]
      by_cases h5 : c.ops[i].kind = 5
      · simp (maxSteps := 2000000) only [go_sem, hi, look_5 h5, hv, encO]
      · by_cases h6 : c.ops[i].kind = 6
        · simp (maxSteps := 2000000) only [go_sem, hi, look_6 h6, hv, encO]
        · simp (maxSteps := 2000000) only [go_sem, hi, look_no h5 h6, hv, encO]
    rw [if_pos hv]
    simp only [encO, hv] at htk hgr
    by_cases h5 : c.ops[i].kind = 5
    · rw [if_pos h5]
      cases hp : takeP x c.st c.ops[i].vi with
      | none =>
        rw [hp] at htk
        rw [Option.bind_none]
        refine ⟨[.cells false (cellsM c), cellsI x, .cells false (encO c.ops[i])], fun {R} => ?_⟩
        rw [run_round, run_unfold escrow_Do_1.b0.eq_1]
        simp (maxSteps := 2000000) only [go_sem, hi, look_5 h5, hv, encO, htk, Option.isSome_none, Option.getD_none]
      | some z =>
        rw [hp] at htk
        have hz := takeP_good hx hp
        have := ih hz
        rw [Option.bind_some]
        have hR : ∀ {R : Post}, Run T (Ret [.tmp 3] R) (.inLoop escrow_Do_1.b0 :: escrow_Do_1.k0) (mkE 49 [(0, .ptr 1 6 0), (1, .ptr 0 5 0), (9, oprs c.f c.ops), (10, .int .i64 c.ops.length), (11, .int .i64 i)]) [.cells false (cellsM c), cellsI x] ↔
            Run T (Ret [.tmp 3] R) (.inLoop escrow_Do_1.b0 :: escrow_Do_1.k0) (mkE 49 [(0, .ptr 1 6 0), (1, .ptr 0 5 0), (9, oprs c.f c.ops), (10, .int .i64 c.ops.length), (11, .int .i64 ((i + 1 : Nat) : Int))]) [.cells false (cellsM c), cellsI z] := by
          intro R
          conv => lhs; rw [run_round, run_unfold escrow_Do_1.b0.eq_1]
          simp (maxSteps := 2000000) only [go_sem, hi, look_5 h5, hv, encO, htk, Option.isSome_some, Option.getD_some, hw]
        simp only [hR]
        exact this
    · rw [if_neg h5]
      by_cases h6 : c.ops[i].kind = 6
      case neg =>
        rw [if_neg h6, Option.bind_none]
        refine ⟨[.cells false (cellsM c), cellsI x, .cells false (encO c.ops[i])], fun {R} => ?_⟩
        rw [run_round, run_unfold escrow_Do_1.b0.eq_1]
        simp (maxSteps := 2000000) only [go_sem, hi, look_no h5 h6, hv, encO]
      rw [if_pos h6]
      cases hp : grantP x c.st c.ops[i].to c.ops[i].vi with
      | none =>
        rw [hp] at hgr
        rw [Option.bind_none]
        refine ⟨[.cells false (cellsM c), cellsI x, .cells false (encO c.ops[i])], fun {R} => ?_⟩
        rw [run_round, run_unfold escrow_Do_1.b0.eq_1]
        simp (maxSteps := 2000000) only [go_sem, hi, look_6 h6, hv, encO, hgr, Option.isSome_none, Option.getD_none]
      | some z =>
        rw [hp] at hgr
        have hz := grantP_good hx hp
        have := ih hz
        rw [Option.bind_some]
        have hR : ∀ {R : Post}, Run T (Ret [.tmp 3] R) (.inLoop escrow_Do_1.b0 :: escrow_Do_1.k0) (mkE 49 [(0, .ptr 1 6 0), (1, .ptr 0 5 0), (9, oprs c.f c.ops), (10, .int .i64 c.ops.length), (11, .int .i64 i)]) [.cells false (cellsM c), cellsI x] ↔
            Run T (Ret [.tmp 3] R) (.inLoop escrow_Do_1.b0 :: escrow_Do_1.k0) (mkE 49 [(0, .ptr 1 6 0), (1, .ptr 0 5 0), (9, oprs c.f c.ops), (10, .int .i64 c.ops.length), (11, .int .i64 ((i + 1 : Nat) : Int))]) [.cells false (cellsM c), cellsI z] := by
          intro R
          conv => lhs; rw [run_round, run_unfold escrow_Do_1.b0.eq_1]
          simp (maxSteps := 2000000) only [go_sem, hi, look_6 h6, hv, encO, hgr, Option.isSome_some, Option.getD_some, hw]
        simp only [hR]
        exact this
end Go.Abs
/- Walks of chapter 20: orders, names, closed cuts of the reference. -/
set_option linter.unusedSimpArgs false
set_option linter.unusedVariables false
namespace Go.Abs
open Go
attribute [local go_sem_proc] Nat.reduceLT Nat.reduceEqDiff Nat.reduceLeDiff Nat.reduceAdd Nat.reduceSub Nat.reduceMul Int.reduceLT Int.reduceLE Int.reduceEq Int.reduceNeg
attribute [local go_sem_proc ↓] reduceIte

/-! ### The fixed order -/
def orI (l : List Int) : Int := (l.find? fun x => decide (x ≠ 0)).getD 0

theorem cmp_Or_int_loop {f : SlF} {l : List Int} (hl : Fits l) : ∀ i, i ≤ l.length →
    Run T (Res [.tmp 2] (.int .i64 (orI (l.drop i)))) (.inLoop cmp_Or_int.b0 :: cmp_Or_int.k0) (mkE 18 [(3, .int .i64 0), (6, ints f l), (7, .int .i64 l.length), (8, .int .i64 i)]) [] := by
  refine up_ind ?_ fun i hi ih => ?_
  · rw [run_round, run_unfold cmp_Or_int.b0.eq_1]
    simp (maxSteps := 2000000) only [go_sem, run_unfold cmp_Or_int.c0.eq_1, cmp_Or_int.k0, List.drop_length, orI, List.find?_nil, Option.getD_none]
  · rw [run_round, run_unfold cmp_Or_int.b0.eq_1]
    rw [List.drop_eq_getElem_cons hi]
    by_cases h : l[i] = 0
    · simp (maxSteps := 2000000) only [go_sem, hi, h, orI, List.find?_cons, wrap_succ (show i < 9223372036854775807 by omega)]
      exact ih
    · simp (maxSteps := 2000000) only [go_sem, hi, h, orI, List.find?_cons, Option.getD_some]

theorem cmp_Or_int_spec {f : SlF} {l : List Int} (hl : Fits l) {lv : List Nat} {σ : Sto} {R : Post} : Cw T true i_cmp_Or_int [ints f l] lv σ R ↔ R (.int .i64 (orI l)) σ := by
  refine cw_intro T_cmp_Or_int (by simp only [go_sem]) (by simp) ?_; rw [run_unfold cmp_Or_int.main.eq_1]
  simp (maxSteps := 2000000) only [go_sem]
  exact cmp_Or_int_loop hl 0 (by omega)
@[go_sem] theorem cmp_Or_int_call {f : SlF} {l : List Int} (hl : Fits l) {Q : Post3} {k : List Item} {os : List AOper} {d : Option Nat} {e : Env} {σ : Sto} : CallK T Q k os d e σ true i_cmp_Or_int [ints f l] ↔ Run T Q (.ops os :: k) (put e d (.int .i64 (orI l))) σ := cmp_Or_int_spec hl


theorem snap_lit {σ : Sto} {o m : Nat} {c : List Int} (hσ : σ[o]? = some (.cells false (c.map fun n => AVal.int .i64 n))) (hm : c.length = m) : snapA σ 64 (.ref o m 0 m 1) = some (ints .lst c) := by
  subst hm; exact snap_ints (n := 62) hσ

def cmpC (a b : Com) : Int := orI [cmpI (sumW a.past) (sumW b.past), cmpI a.st b.st, cmpI a.seq b.seq]

theorem cut_compare_spec {a b : Com} (ha : Fits a.past) (hb : Fits b.past) {lv : List Nat} {σ : Sto} {R : Post} : Cw T true i_cut_compare [encC a, encC b] lv σ R ↔ R (.int .i64 (cmpC a b)) σ := by
  refine cw_intro T_cut_compare (by simp only [go_sem]) (by simp) ?_; rw [run_unfold cut_compare.main.eq_1]
  simp (maxSteps := 2000000) only [go_sem, ha, hb]
  rw [callK_live T_cmp_Or_int (as := [ints .lst [cmpI (sumW a.past) (sumW b.past), cmpI a.st b.st, cmpI a.seq b.seq]]) (cmp_Or_int_spec (by unfold Fits; simp)) (by
    rw [mapM_scons, mapM_snil, snapDepth_eq, snap_lit (c := [cmpI (sumW a.past) (sumW b.past), cmpI a.st b.st, cmpI a.seq b.seq]) (by rfl) (by rfl)]) rfl rfl]
  simp (maxSteps := 2000000) only [go_sem, cmpC]
@[go_sem] theorem cut_compare_call {a b : Com} (ha : Fits a.past) (hb : Fits b.past) {Q : Post3} {k : List Item} {os : List AOper} {d : Option Nat} {e : Env} {σ : Sto} : CallK T Q k os d e σ true i_cut_compare [encC a, encC b] ↔ Run T Q (.ops os :: k) (put e d (.int .i64 (cmpC a b))) σ := cut_compare_spec ha hb


theorem fits_of_valid {c : List Int} (h : valid c = true) : Fits c := by have := valid_len h; unfold Fits; omega

def befC (a b : Com) : Bool := wf a && wf b && decide (cmpC a b < 0)

theorem past_fits {c : Com} (h : wf c = true) : Fits c.past := fits_of_valid (wf_parts h).2.2.2.2.1

theorem cut_Before_spec {a b : Com} {lv : List Nat} {σ : Sto} {R : Post} : Cw T true i_cut_Before [encC a, encC b] lv σ R ↔ R (.bool (befC a b)) σ := by
  refine cw_intro T_cut_Before (by simp only [go_sem]) (by simp) ?_; rw [run_unfold cut_Before.main.eq_1]
  unfold befC
  cases h1 : wf a
  case false => simp (maxSteps := 2000000) only [go_sem, h1]
  cases h2 : wf b
  case false => simp (maxSteps := 2000000) only [go_sem, h2, h1]
  simp (maxSteps := 2000000) only [go_sem, h1, h2, past_fits h1, past_fits h2]
@[go_sem] theorem cut_Before_call {a b : Com} {Q : Post3} {k : List Item} {os : List AOper} {d : Option Nat} {e : Env} {σ : Sto} : CallK T Q k os d e σ true i_cut_Before [encC a, encC b] ↔ Run T Q (.ops os :: k) (put e d (.bool (befC a b))) σ := cut_Before_spec


theorem cmpC_lt (a b : Com) : decide (cmpC a b < 0) = if decide (sumW a.past = sumW b.past) = true then (if decide (a.st = b.st) = true then decide (a.seq < b.seq) else decide (a.st < b.st)) else decide (sumW a.past < sumW b.past) := by
  have hz : ∀ x y : Int, (cmpI x y = 0 ↔ x = y) ∧ (cmpI x y < 0 ↔ x < y) := by
    intro x y
    unfold cmpI
    split
    · constructor <;> constructor <;> intro <;> omega
    · split
      · constructor <;> constructor <;> intro <;> omega
      · constructor <;> constructor <;> intro <;> omega
  unfold cmpC orI
  by_cases h1 : sumW a.past = sumW b.past
  · rw [if_pos (by simp [h1])]
    have e1 := (hz _ _).1.2 h1
    by_cases h2 : a.st = b.st
    · rw [if_pos (by simp [h2])]
      have e2 := (hz _ _).1.2 h2
      by_cases h3 : a.seq = b.seq
      · have e3 := (hz _ _).1.2 h3
        have h4 : ¬ a.seq < b.seq := by omega
        simp [List.find?_cons, e1, e2, e3, h4]
      · have : cmpI a.seq b.seq ≠ 0 := fun e => h3 ((hz _ _).1.1 e)
        simp [List.find?_cons, e1, e2, this, (hz a.seq b.seq).2]
    · rw [if_neg (by simp [h2])]
      have : cmpI a.st b.st ≠ 0 := fun e => h2 ((hz _ _).1.1 e)
      simp [List.find?_cons, e1, this, (hz a.st b.st).2]
  · rw [if_neg (by simp [h1])]
    have : cmpI (sumW a.past) (sumW b.past) ≠ 0 := fun e => h1 ((hz _ _).1.1 e)
    simp [List.find?_cons, this, (hz (sumW a.past) (sumW b.past)).2]

theorem r20_Before_spec {a b : Com} {lv : List Nat} {σ : Sto} {R : Post} : Cw T true i_r20_Before [encC a, encC b] lv σ R ↔ R (.bool (befC a b)) σ := by
  refine cw_intro T_r20_Before (by simp only [go_sem]) (by simp) ?_; rw [run_unfold r20_Before.main.eq_1]
  unfold befC
  rw [cmpC_lt]
  cases h1 : wf a
  case false => simp (maxSteps := 2000000) only [go_sem, h1]
  cases h2 : wf b
  case false => simp (maxSteps := 2000000) only [go_sem, h2, h1]
  cases h3 : decide (sumW a.past = sumW b.past)
  · simp (maxSteps := 2000000) only [go_sem, h1, h2, past_fits h1, past_fits h2, h3]
  · cases h4 : decide (a.st = b.st)
    · simp (maxSteps := 2000000) only [go_sem, h1, h2, past_fits h1, past_fits h2, h3, h4]
    · simp (maxSteps := 2000000) only [go_sem, h1, h2, past_fits h1, past_fits h2, h3, h4]
@[go_sem] theorem r20_Before_call {a b : Com} {Q : Post3} {k : List Item} {os : List AOper} {d : Option Nat} {e : Env} {σ : Sto} : CallK T Q k os d e σ true i_r20_Before [encC a, encC b] ↔ Run T Q (.ops os :: k) (put e d (.bool (befC a b))) σ := r20_Before_spec


/-! ### Names -/
@[go_sem] theorem eqsV_name {neg : Bool} {a b c d : Int} {σ : Sto} : eqsV neg (.row [(0, 1, false, .int .i64), (1, 1, false, .int .i64)]) (.agg [.int .i64 a, .int .i64 b]) (.agg [.int .i64 c, .int .i64 d]) σ = some (.bool (if neg = true then !(decide (a = c) && decide (b = d)) else (decide (a = c) && decide (b = d))), σ) := by
  have : eqA (.row [(0, 1, false, .int .i64), (1, 1, false, .int .i64)]) (.agg [.int .i64 a, .int .i64 b]) (.agg [.int .i64 c, .int .i64 d]) = some (decide (a = c) && decide (b = d)) := by
    simp only [eqA, eqParts]
    by_cases h : a = c
    · subst h
      by_cases h2 : b = d
      · subst h2; simp
      · simp [h2]
    · simp [h]
  simp only [eqsV, this]
  cases neg <;> rfl

def isN (n : Nam) (c : Com) : Bool := decide (c.st = n.st) && decide (c.seq = n.seq)

@[go_sem] theorem iaddrV_coms {f : SlF} {l : List Com} {kd : IntKind} {i : Nat} {σ : Sto} (h : i < l.length) : iaddrV 5 (sv 5 f (l.map encC)) (.int kd (i : Int)) σ = some (.fptr [.int .i64 l[i].st, .int .i64 l[i].seq, ints l[i].pf l[i].past, .int .i64 l[i].ver, l[i].ops], σ) := iaddrV_map h
abbrev coms (f : SlF) (l : List Com) : AVal := sv 5 f (l.map encC)

theorem r20_Find_loop {f : SlF} {l : List Com} {n : Nam} (hl : Fits l) : ∀ i, i ≤ l.length →
    Run T (Res [.tmp 4] (.int .i64 (match (l.drop i).findIdx? (isN n) with | some j => (i + j : Nat) | none => -1))) (.inLoop r20_Find.b0 :: r20_Find.k0) (mkE 20 [(0, coms f l), (3, .ptr 0 2 0), (5, .int .i64 i)]) [.cells false (encN n).cells] := by
  refine up_ind ?_ fun i hi ih => ?_
  · rw [run_round, run_unfold r20_Find.b0.eq_1]
    simp (maxSteps := 2000000) only [go_sem, run_unfold r20_Find.c0.eq_1, r20_Find.k0, List.drop_length, List.findIdx?_nil]
  · rw [run_round, run_unfold r20_Find.b0.eq_1]
    rw [List.drop_eq_getElem_cons hi]
    have hno : isN n l[i] = false → Run T (Res [.tmp 4] (.int .i64 (match (Option.map (fun i => i + 1) ((l.drop (i + 1)).findIdx? (isN n))) with | some j => (i + j : Nat) | none => -1))) (.inLoop r20_Find.b0 :: r20_Find.k0) (mkE 20 [(0, coms f l), (3, .ptr 0 2 0), (5, .int .i64 ((i + 1 : Nat) : Int))]) [.cells false (encN n).cells] := by
      intro _
      refine Eq.mp (congrArg (fun v => Run T (Res [.tmp 4] (.int .i64 v)) _ _ _) ?_) ih
      cases (l.drop (i + 1)).findIdx? (isN n) with
      | none => rfl
      | some j => simp; omega
    by_cases h1 : l[i].st = n.st
    · by_cases h2 : l[i].seq = n.seq
      · simp (maxSteps := 2000000) only [go_sem, hi, List.findIdx?_cons, isN, h1, h2]
      · have h3 : isN n l[i] = false := by simp [isN, h2]
        simp (maxSteps := 2000000) only [go_sem, hi, List.findIdx?_cons, h3, h1, h2, wrap_succ (show i < 9223372036854775807 by omega)]
        exact hno h3
    · have h3 : isN n l[i] = false := by simp [isN, h1]
      simp (maxSteps := 2000000) only [go_sem, hi, List.findIdx?_cons, h3, h1, wrap_succ (show i < 9223372036854775807 by omega)]
      exact hno h3

theorem r20_Find_spec {f : SlF} {l : List Com} {st seq : Int} (hl : Fits l) {lv : List Nat} {σ : Sto} {R : Post} : Cw T true i_r20_Find [coms f l, .agg [.int .i64 st, .int .i64 seq]] lv σ R ↔ R (.int .i64 (idxOf (isN ⟨st, seq⟩) l)) σ := by
  refine cw_intro T_r20_Find (by simp only [go_sem]) (by simp) ?_; rw [run_unfold r20_Find.main.eq_1]
  simp (maxSteps := 2000000) only [go_sem]
  have := r20_Find_loop (f := f) (n := ⟨st, seq⟩) hl 0 (by omega)
  simp only [List.drop_zero, Nat.zero_add] at this
  exact this
@[go_sem] theorem r20_Find_call {f : SlF} {l : List Com} {st seq : Int} (hl : Fits l) {Q : Post3} {k : List Item} {os : List AOper} {d : Option Nat} {e : Env} {σ : Sto} : CallK T Q k os d e σ true i_r20_Find [coms f l, .agg [.int .i64 st, .int .i64 seq]] ↔ Run T Q (.ops os :: k) (put e d (.int .i64 (idxOf (isN ⟨st, seq⟩) l))) σ := r20_Find_spec hl


end Go.Abs
/- Walks of chapter 20: the reference's closed cuts. -/
set_option linter.unusedSimpArgs false
set_option linter.unusedVariables false
namespace Go.Abs
open Go
attribute [local go_sem_proc] Nat.reduceLT Nat.reduceEqDiff Nat.reduceLeDiff Nat.reduceAdd Nat.reduceSub Nat.reduceMul Int.reduceLT Int.reduceLE Int.reduceEq Int.reduceNeg
attribute [local go_sem_proc ↓] reduceIte

abbrev bytesV (f : SlF) (b : List Nat) : AVal := sv 1 f (b.map fun n => .int .u8 ((n : Nat) : Int))
abbrev zeros : List Int := [0, 0, 0, 0, 0, 0]

theorem r20_Zero_shared {σ : Sto} {R : Post} : Cw T false i_r20_Zero [] [] σ R ↔ R (.ref σ.length 6 0 6 1) (σ ++ [.cells false (zeros.map fun n => .int .i64 n)]) := by
  rw [cw_enter T_r20_Zero (by simp), run_unfold r20_Zero.main.eq_1]
  simp (maxSteps := 2000000) only [go_sem]
  rw [show mksliceV 1 8 [AVal.int IntKind.i64 0] (AVal.int IntKind.i64 6) (AVal.int IntKind.i64 6) σ = some (.ref σ.length 6 0 6 1, σ ++ [.cells false (zeros.map fun n => .int .i64 n)]) from rfl]
  simp (maxSteps := 2000000) only [go_sem]
@[go_sem] theorem r20_Zero_call' {Q : Post3} {k : List Item} {os : List AOper} {d : Option Nat} {e : Env} {σ : Sto} : CallK T Q k os d e σ false i_r20_Zero [] ↔ Run T Q (.ops os :: k) (put e d (.ref σ.length 6 0 6 1)) (σ ++ [.cells false (zeros.map fun n => .int .i64 n)]) := callK_shared r20_Zero_shared

theorem r20_All_loop : ∀ i, i ≤ 6 → ∀ o : List Int, o.length = i →
    Run T (Res [.tmp 0] (ints .lst (o ++ List.replicate (6 - i) 999))) (.inLoop r20_All.b0 :: r20_All.k0) (mkE 12 [(1, .ref 0 o.length 0 o.length 1), (2, .int .i64 i)]) [.cells false (o.map fun n => .int .i64 n)] := by
  refine up_ind ?_ fun i hi ih o ho => ?_
  · intro o ho
    rw [run_round, run_unfold r20_All.b0.eq_1]
    simp (maxSteps := 2000000) only [go_sem, run_unfold r20_All.c0.eq_1, r20_All.k0, show (List.replicate (6 - 6) (999 : Int)) = [] from rfl]
    rw [snap_ints (by rfl)]
  · rw [run_round, run_unfold r20_All.b0.eq_1]
    simp (maxSteps := 2000000) only [go_sem, show ((i : Int) < 6) by omega]
    rw [appendV_push (by rfl) (by rfl) (by simp) rfl (by unfold maxBytes; omega)]
    simp (maxSteps := 2000000) only [go_sem, wrap_succ (show i < 9223372036854775807 by omega)]
    have := ih (o ++ [999]) (by simp [ho])
    rw [show 6 - i = (6 - (i + 1)) + 1 by omega, List.replicate_succ]
    simpa using this

theorem r20_All_spec  {lv : List Nat} {σ : Sto} {R : Post} : Cw T true i_r20_All [] lv σ R ↔ R (ints .lst [999, 999, 999, 999, 999, 999]) σ := by
  refine cw_intro T_r20_All (by simp only [go_sem]) (by simp) ?_; rw [run_unfold r20_All.main.eq_1]
  simp (maxSteps := 2000000) only [go_sem]
  exact r20_All_loop 0 (by omega) [] rfl
@[go_sem] theorem r20_All_call  {Q : Post3} {k : List Item} {os : List AOper} {d : Option Nat} {e : Env} {σ : Sto} : CallK T Q k os d e σ true i_r20_All [] ↔ Run T Q (.ops os :: k) (put e d (ints .lst [999, 999, 999, 999, 999, 999])) σ := r20_All_spec


def own (c : Com) : List Int := c.past.set c.st.toNat c.seq

theorem r20_Own_spec {c : Com} (h1 : 0 ≤ c.st) (h2 : c.st.toNat < c.past.length) (h3 : c.past.length * 8 ≤ maxBytes) {lv : List Nat} {σ : Sto} {R : Post} : Cw T true i_r20_Own [encC c] lv σ R ↔ R (ints .lst (own c)) σ := by
  refine cw_intro T_r20_Own (by simp only [go_sem]) (by simp) ?_; rw [run_unfold r20_Own.main.eq_1]
  simp (maxSteps := 2000000) only [go_sem]
  rw [appendV_fresh (by rfl) rowOf_ints (by simp) (by decide) (by simp [AVal.one]) h3]
  obtain ⟨n, hn⟩ := Int.eq_ofNat_of_zero_le h1
  rw [hn] at h2 ⊢
  have h2' : n < c.past.length := by simpa using h2
  have h4 : n + 1 ≤ c.past.length := h2'
  simp (maxSteps := 2000000) only [go_sem, h2', h4]
  have e : own c = c.past.set n c.seq := by unfold own; rw [hn]; rfl
  rw [e, show c.past.length = (c.past.set n c.seq).length by simp]
  exact snap_ints rfl
@[go_sem] theorem r20_Own_call {c : Com} (h1 : 0 ≤ c.st) (h2 : c.st.toNat < c.past.length) (h3 : c.past.length * 8 ≤ maxBytes) {Q : Post3} {k : List Item} {os : List AOper} {d : Option Nat} {e : Env} {σ : Sto} : CallK T Q k os d e σ true i_r20_Own [encC c] ↔ Run T Q (.ops os :: k) (put e d (ints .lst (own c))) σ := r20_Own_spec h1 h2 h3


def limF : List Nat → List Int → List Int
  | _, [] => []
  | [], o => o
  | x :: b, _ :: o => ((x % 6 : Nat) : Int) :: limF b o
theorem limF_nil (o : List Int) : limF [] o = o := by cases o <;> rfl
theorem limF_len : ∀ (b : List Nat) (o : List Int), (limF b o).length = o.length
  | _, [] => by simp [limF]
  | [], _ :: _ => rfl
  | x :: b, _ :: o => by simp [limF, limF_len b o]

theorem rem6 (x : Nat) : IntKind.i64.wrap (Int.tmod (x : Int) 6) = ((x % 6 : Nat) : Int) := by
  have : Int.tmod (x : Int) 6 = ((x % 6 : Nat) : Int) := rfl
  rw [this]
  have : x % 6 < 6 := Nat.mod_lt _ (by decide)
  exact wrap_i64 (by omega) (by omega)

theorem r20_Limit_loop {f : SlF} {b : List Nat} (hb : Fits b) : ∀ i, i ≤ 6 → ∀ o : List Int, o.length = 6 →
    Run T (Res [.tmp 2] (ints .lst (o.take i ++ limF (b.drop i) (o.drop i)))) (.inLoop r20_Limit.b0 :: r20_Limit.k0) (mkE 28 [(0, bytesV f b), (3, .ref 0 6 0 6 1), (4, .int .i64 i)]) [.cells false (o.map fun n => .int .i64 n)] := by
  refine up_ind ?_ fun i hi ih o ho => ?_
  · intro o ho
    rw [run_round, run_unfold r20_Limit.b0.eq_1]
    rw [List.take_of_length_le (by omega), List.drop_eq_nil_of_le (as := o) (by omega), show limF (b.drop 6) [] = [] by cases (b.drop 6) <;> rfl]
    simp (maxSteps := 2000000) only [go_sem, run_unfold r20_Limit.c0.eq_1, r20_Limit.k0, ho]
    rw [show (6 : Nat) = o.length from ho.symm, snap_ints (by rfl)]
  · rw [run_round, run_unfold r20_Limit.b0.eq_1]
    have h3 : i < o.length := by omega
    by_cases h : i < b.length
    · simp (maxSteps := 2000000) only [go_sem, ho, h, show ((i : Int) < 6) by omega, show (i < 6) by omega, binV_rem, rem6, show i + 1 ≤ 6 by omega, h3, wrap_succ (show i < 9223372036854775807 by omega), show ¬ ((6 : Int) = 0) by omega]
      have := ih (o.set i ((b[i] % 6 : Nat) : Int)) (by simp [ho])
      rw [List.drop_eq_getElem_cons h, List.drop_eq_getElem_cons h3, limF]
      rw [take_set_succ h3, List.append_assoc, List.drop_set_of_lt (by omega)] at this
      exact this
    · rw [List.drop_eq_nil_of_le (as := b) (by omega), limF_nil, List.take_append_drop]
      simp (maxSteps := 2000000) only [go_sem, run_unfold r20_Limit.c0.eq_1, r20_Limit.k0, ho, h, show ((i : Int) < 6) by omega]
      rw [show (6 : Nat) = o.length from ho.symm, snap_ints (by rfl)]

def limit (b : List Nat) : List Int := limF b zeros

theorem r20_Limit_spec {f : SlF} {b : List Nat} (hb : Fits b) {lv : List Nat} {σ : Sto} {R : Post} : Cw T true i_r20_Limit [bytesV f b] lv σ R ↔ R (ints .lst (limit b)) σ := by
  refine cw_intro T_r20_Limit (by simp only [go_sem]) (by simp) ?_; rw [run_unfold r20_Limit.main.eq_1]
  simp (maxSteps := 2000000) only [go_sem]
  exact r20_Limit_loop hb 0 (by omega) zeros rfl
@[go_sem] theorem r20_Limit_call {f : SlF} {b : List Nat} (hb : Fits b) {Q : Post3} {k : List Item} {os : List AOper} {d : Option Nat} {e : Env} {σ : Sto} : CallK T Q k os d e σ true i_r20_Limit [bytesV f b] ↔ Run T Q (.ops os :: k) (put e d (ints .lst (limit b))) σ := r20_Limit_spec hb


/-! ### What a list of commits has -/
theorem idxOf_cases {α : Type} (p : α → Bool) (l : List α) : (idxOf p l = -1 ∧ l.find? p = none) ∨ ∃ (j : Nat) (h : j < l.length), idxOf p l = (j : Int) ∧ l.find? p = some l[j] := by
  unfold idxOf
  cases h : l.findIdx? p with
  | none =>
    left
    refine ⟨rfl, ?_⟩
    rw [List.find?_eq_none]
    rw [List.findIdx?_eq_none_iff] at h
    intro x hx; simp [h x hx]
  | some j =>
    right
    obtain ⟨hj, hp, hlt⟩ := List.findIdx?_eq_some_iff_getElem.1 h
    refine ⟨j, hj, rfl, ?_⟩
    rw [List.find?_eq_some_iff_getElem]
    exact ⟨hp, j, hj, rfl, fun k hk => by simpa using hlt k hk⟩

def knownL (l : List Com) (past : List Int) : Nat → List Int → Bool
  | _, [] => true
  | s, q :: qs => (if q = 0 then true else match l.find? (isN ⟨s, q⟩) with
    | some c => leq c.past past
    | none => false) && knownL l past (s + 1) qs

def okq (l : List Com) (c : List Int) (s : Nat) (q : Nat) : Bool := match l.find? (isN ⟨s, q⟩) with
  | some x => wf x && leq x.past c
  | none => false
/-- how far p holds without a gap, from q on, d steps at most -/
def lead (p : Nat → Bool) : Nat → Nat → Nat
  | q, 0 => q
  | q, d + 1 => if p (q + 1) = true then lead p (q + 1) d else q

theorem r20_fits_loop {f g : SlF} {l : List Com} {c : List Int} {s m : Nat} (hl : Fits l) (hs : s < c.length) (hm : c[s] = (m : Int)) (hb : m < 1000) : ∀ d q, q + d = m →
    Run T (Res [.tmp 6] (.int .i64 (lead (okq l c s) q d : Nat))) (.inLoop r20_fits.b0 :: r20_fits.k0) (mkE 48 [(0, coms f l), (1, ints g c), (2, .int .i64 s), (7, .int .i64 ((q + 1 : Nat) : Int))]) [] := by
  intro d
  induction d with
  | zero =>
    intro q hq
    rw [run_round, run_unfold r20_fits.b0.eq_1]
    simp (maxSteps := 2000000) only [go_sem, run_unfold r20_fits.c0.eq_1, r20_fits.k0, hs, hm, show ¬ (((q + 1 : Nat) : Int) ≤ (m : Int)) by omega, lead]
    omega
  | succ d ih =>
    intro q hq
    rw [run_round, run_unfold r20_fits.b0.eq_1]
    have hle : (((q + 1 : Nat) : Int) ≤ (m : Int)) := by omega
    have hw := wrap_succ (show q + 1 < 9223372036854775807 by omega)
    have hw2 : IntKind.i64.wrap (((q + 1 : Nat) : Int) - 1) = (q : Int) := by rw [wrap_i64 (by omega) (by omega)]; omega
    rcases idxOf_cases (isN ⟨s, ((q + 1 : Nat) : Int)⟩) l with ⟨h1, h2⟩ | ⟨j, hj, h1, h2⟩
    · have hk : okq l c s (q + 1) = false := by unfold okq; rw [h2]
      simp (maxSteps := 2000000) only [go_sem, hs, hm, hle, hl, h1, lead, hk, hw2]
    · cases h3 : wf l[j]
      · have hk : okq l c s (q + 1) = false := by unfold okq; rw [h2]; simp [h3]
        simp (maxSteps := 2000000) only [go_sem, hs, hm, hle, hl, h1, lead, hk, hw2, hj, h3, show ¬ ((j : Int) < 0) by omega]
      · cases h4 : leq l[j].past c
        · have hk : okq l c s (q + 1) = false := by unfold okq; rw [h2]; simp [h3, h4]
          simp (maxSteps := 2000000) only [go_sem, hs, hm, hle, hl, h1, lead, hk, hw2, hj, h3, h4, show ¬ ((j : Int) < 0) by omega]
        · have hk : okq l c s (q + 1) = true := by unfold okq; rw [h2]; simp [h3, h4]
          simp (maxSteps := 2000000) only [go_sem, hs, hm, hle, hl, h1, lead, hk, hw, hj, h3, h4, show ¬ ((j : Int) < 0) by omega]
          exact ih (q + 1) (by omega)

/-- the number that the reference gives for a station -/
def fit (l : List Com) (c : List Int) (s : Nat) : Nat := lead (okq l c s) 0 (c.getD s 0).toNat

theorem valid_get {c : List Int} (h : valid c = true) {s : Nat} (hs : s < c.length) : ∃ m : Nat, c[s] = (m : Int) ∧ m < 1000 ∧ (c.getD s 0).toNat = m := by
  simp only [valid, Bool.and_eq_true, List.all_eq_true, decide_eq_true_eq] at h
  have := h.2 c[s] (List.getElem_mem hs)
  simp only [okSeq, Bool.and_eq_true, decide_eq_true_eq] at this
  refine ⟨c[s].toNat, by omega, by omega, ?_⟩
  rw [List.getD_eq_getElem?_getD, List.getElem?_eq_getElem hs]; rfl

theorem r20_fits_spec {f g : SlF} {l : List Com} {c : List Int} {s : Nat} (hl : Fits l) (hv : valid c = true) (hs : s < 6) {lv : List Nat} {σ : Sto} {R : Post} : Cw T true i_r20_fits [coms f l, ints g c, .int .i64 s] lv σ R ↔ R (.int .i64 (fit l c s : Nat)) σ := by
  refine cw_intro T_r20_fits (by simp only [go_sem]) (by simp) ?_; rw [run_unfold r20_fits.main.eq_1]
  simp (maxSteps := 2000000) only [go_sem]
  have h6 : s < c.length := by rw [valid_len hv]; exact hs
  obtain ⟨m, h1, h2, h3⟩ := valid_get hv h6
  unfold fit
  rw [h3]
  exact r20_fits_loop hl h6 h1 h2 m 0 (by omega)
@[go_sem] theorem r20_fits_call {f g : SlF} {l : List Com} {c : List Int} {s : Nat} (hl : Fits l) (hv : valid c = true) (hs : s < 6) {Q : Post3} {k : List Item} {os : List AOper} {d : Option Nat} {e : Env} {σ : Sto} : CallK T Q k os d e σ true i_r20_fits [coms f l, ints g c, .int .i64 s] ↔ Run T Q (.ops os :: k) (put e d (.int .i64 (fit l c s : Nat))) σ := r20_fits_spec hl hv hs


end Go.Abs
/- Walks of chapter 23: what a law calls. -/
set_option linter.unusedSimpArgs false
set_option linter.unusedVariables false
namespace Go.Abs
open Go
attribute [local go_sem_proc] Nat.reduceLT Nat.reduceEqDiff Nat.reduceLeDiff Nat.reduceAdd Nat.reduceSub Nat.reduceMul Int.reduceLT Int.reduceLE Int.reduceEq Int.reduceNeg
attribute [local go_sem_proc ↓] reduceIte

theorem escrow_try_fail {f : SlF} {s : List Int} (hs : svalid s = true) {g : FuncId} {fs cs : List AVal} {σ τ : Sto}
    (hg : ∀ {R : Post}, Cw T false g (fs ++ [.ptr σ.length 6 0] ++ cs) [] (σ ++ [cellsI s]) R ↔ R (.bool false) τ) {R : Post} :
    Cw T false i_escrow_try [ints f s, .clo (.func g) fs cs] [] σ R ↔ R (.tup [.nils, .int .i64 230]) τ := by
  rw [cw_enter T_escrow_try (by simp), run_unfold escrow_try.main.eq_1]
  have hG := svalid_good.1 hs
  obtain ⟨a1, a2, a3, a4, a5, a6, rfl⟩ := six hG.len
  have hf : ints f [a1, a2, a3, a4, a5, a6] = .list 1 [.int .i64 a1, .int .i64 a2, .int .i64 a3, .int .i64 a4, .int .i64 a5, .int .i64 a6] := rfl
  have ha : arrpV 6 1 (ints f [a1, a2, a3, a4, a5, a6]) σ = some (.fptr [.int .i64 a1, .int .i64 a2, .int .i64 a3, .int .i64 a4, .int .i64 a5, .int .i64 a6], σ) := by rw [hf]; rfl
  have hk := fun (Q : Post3) (k : List Item) (os : List AOper) (d : Option Nat) (e : Env) => callK_shared (T := T) (Q := Q) (k := k) (os := os) (d := d) (e := e) hg
  simp only [cellsI, List.map_cons, List.map_nil] at hk
  simp (maxSteps := 2000000) only [go_sem, hs, ha, get_last, set_last]
  rw [hk]
  simp (maxSteps := 2000000) only [go_sem]

theorem do_1_some {c : Cm} (hc : Fits c.ops) {s y : List Int} (hs : Good s) (h : opsP c.st c.ops s = some y) {R : Post} :
    Cw T false i_escrow_Do_1 ([] ++ [.ptr [AObj.cells false (cellsM c)].length 6 0] ++ [.ptr 0 5 0]) [] ([.cells false (cellsM c)] ++ [cellsI s]) R ↔ R (.bool (decide (0 ≤ c.st) && decide (c.st < 6))) ([.cells false (cellsM c)] ++ [cellsI y]) := by
  simp only [List.nil_append, List.cons_append, List.length_cons, List.length_nil, Nat.zero_add, Nat.reduceAdd]
  rw [cw_enter T_escrow_Do_1 (by simp), run_unfold escrow_Do_1.main.eq_1]
  simp (maxSteps := 2000000) only [go_sem]
  have := Do_1_loop hc 0 (by omega) hs
  rw [List.drop_zero, h] at this
  exact this
theorem do_1_none {c : Cm} (hc : Fits c.ops) {s : List Int} (hs : Good s) (h : opsP c.st c.ops s = none) : ∃ τ, ∀ {R : Post},
    Cw T false i_escrow_Do_1 ([] ++ [.ptr [AObj.cells false (cellsM c)].length 6 0] ++ [.ptr 0 5 0]) [] ([.cells false (cellsM c)] ++ [cellsI s]) R ↔ R (.bool false) τ := by
  have := Do_1_loop hc 0 (by omega) hs
  rw [List.drop_zero, h] at this
  obtain ⟨τ, this⟩ := this
  refine ⟨τ, fun {R} => ?_⟩
  simp only [List.nil_append, List.cons_append, List.length_cons, List.length_nil, Nat.zero_add, Nat.reduceAdd]
  rw [cw_enter T_escrow_Do_1 (by simp), run_unfold escrow_Do_1.main.eq_1]
  simp (maxSteps := 2000000) only [go_sem]
  exact this

/-- a commit, done -/
def doP (s : List Int) (c : Cm) : Option (List Int) := if svalid s && (decide (0 ≤ c.st) && decide (c.st < 6)) then opsP c.st c.ops s else none

theorem escrow_Do_spec {f : SlF} {s : List Int} {c : Cm} (hc : Fits c.ops) {lv : List Nat} {σ : Sto} {R : Post} : Cw T true i_escrow_Do [ints f s, encM c] lv σ R ↔ R (gotA (doP s c)) σ := by
  refine cw_intro T_escrow_Do (by simp only [go_sem]) (by simp) ?_; rw [run_unfold escrow_Do.main.eq_1]
  unfold doP
  cases hs : svalid s
  · simp (maxSteps := 2000000) only [go_sem, callK_shared (escrow_try_bad hs), gotA, Bool.false_and]
  · have hG := svalid_good.1 hs
    cases hp : opsP c.st c.ops s with
    | none =>
      obtain ⟨τ, h⟩ := do_1_none hc hG hp
      simp (maxSteps := 2000000) only [go_sem, callK_shared (escrow_try_fail hs h), gotA, ite_self]
    | some y =>
      have hy := opsP_good hG hp
      simp (maxSteps := 2000000) only [go_sem, callK_shared (escrow_try_good hs hy.len (do_1_some hc hG hp)), Bool.true_and]
      cases hb : decide (0 ≤ c.st) && decide (c.st < 6)
      · simp (maxSteps := 2000000) only [go_sem, hb, gotA]
      · simp (maxSteps := 2000000) only [go_sem, hb, gotA, snap6 hy.len (show [AObj.cells false (cellsM c), cellsI y][1]? = _ from rfl)]
@[go_sem] theorem escrow_Do_call {f : SlF} {s : List Int} {c : Cm} (hc : Fits c.ops) {Q : Post3} {k : List Item} {os : List AOper} {d : Option Nat} {e : Env} {σ : Sto} : CallK T Q k os d e σ true i_escrow_Do [ints f s, encM c] ↔ Run T Q (.ops os :: k) (put e d (gotA (doP s c))) σ := escrow_Do_spec hc

end Go.Abs
/- Walks of chapter 23: results, shares of bytes, operations of bytes. -/
set_option linter.unusedSimpArgs false
set_option linter.unusedVariables false
namespace Go.Abs
open Go
attribute [local go_sem_proc] Nat.reduceLT Nat.reduceEqDiff Nat.reduceLeDiff Nat.reduceAdd Nat.reduceSub Nat.reduceMul Int.reduceLT Int.reduceLE Int.reduceEq Int.reduceNeg
attribute [local go_sem_proc ↓] reduceIte

/-- a result with its error -/
def gotG (r : Option (List Int)) : AVal := match r with
  | some y => .agg [ints .lst y, .int .i64 0]
  | none => .agg [.nils, .int .i64 230]

theorem gotA_0 (r : Option (List Int)) : ∃ a b, gotA r = .tup [a, b] ∧ gotG r = .agg [a, b] ∧ a.one = true ∧ b.one = true ∧ a.pure = true ∧ b.pure = true := by
  cases r with
  | none => exact ⟨_, _, rfl, rfl, rfl, rfl, rfl, rfl⟩
  | some y => exact ⟨_, _, rfl, rfl, sv_one, rfl, sv_pure, rfl⟩

theorem l23_taken_spec {f : SlF} {s : List Int} {st v : Int} {lv : List Nat} {σ : Sto} {R : Post} : Cw T true i_l23_taken [ints f s, .int .i64 st, .int .i64 v] lv σ R ↔ R (gotG (if svalid s then takeP s st v else none)) σ := by
  refine cw_intro T_l23_taken (by simp only [go_sem]) (by simp) ?_; rw [run_unfold l23_taken.main.eq_1]
  obtain ⟨a, b, h1, h2, h3, h4, h5, h6⟩ := gotA_0 (if svalid s then takeP s st v else none)
  simp (maxSteps := 2000000) only [go_sem, h1, h2, h3, h4, one_fits h3, one_fits h4, one_cells h3, one_cells h4, names_pure _ h5, names_pure _ h6]
@[go_sem] theorem l23_taken_call {f : SlF} {s : List Int} {st v : Int} {Q : Post3} {k : List Item} {os : List AOper} {d : Option Nat} {e : Env} {σ : Sto} : CallK T Q k os d e σ true i_l23_taken [ints f s, .int .i64 st, .int .i64 v] ↔ Run T Q (.ops os :: k) (put e d (gotG (if svalid s then takeP s st v else none))) σ := l23_taken_spec


theorem l23_granted_spec {f : SlF} {s : List Int} {st to v : Int} {lv : List Nat} {σ : Sto} {R : Post} : Cw T true i_l23_granted [ints f s, .agg [.int .i64 st, .int .i64 to, .int .i64 v]] lv σ R ↔ R (gotG (if svalid s then grantP s st to v else none)) σ := by
  refine cw_intro T_l23_granted (by simp only [go_sem]) (by simp) ?_; rw [run_unfold l23_granted.main.eq_1]
  obtain ⟨a, b, h1, h2, h3, h4, h5, h6⟩ := gotA_0 (if svalid s then grantP s st to v else none)
  simp (maxSteps := 2000000) only [go_sem, h1, h2, h3, h4, one_fits h3, one_fits h4, one_cells h3, one_cells h4, names_pure _ h5, names_pure _ h6]
@[go_sem] theorem l23_granted_call {f : SlF} {s : List Int} {st to v : Int} {Q : Post3} {k : List Item} {os : List AOper} {d : Option Nat} {e : Env} {σ : Sto} : CallK T Q k os d e σ true i_l23_granted [ints f s, .agg [.int .i64 st, .int .i64 to, .int .i64 v]] ↔ Run T Q (.ops os :: k) (put e d (gotG (if svalid s then grantP s st to v else none))) σ := l23_granted_spec


theorem l23_did_spec {f : SlF} {s : List Int} {c : Cm} (hc : Fits c.ops) {lv : List Nat} {σ : Sto} {R : Post} : Cw T true i_l23_did [ints f s, encM c] lv σ R ↔ R (gotG (doP s c)) σ := by
  refine cw_intro T_l23_did (by simp only [go_sem]) (by simp) ?_; rw [run_unfold l23_did.main.eq_1]
  obtain ⟨a, b, h1, h2, h3, h4, h5, h6⟩ := gotA_0 (doP s c)
  simp (maxSteps := 2000000) only [go_sem, hc, h1, h2, h3, h4, one_fits h3, one_fits h4, one_cells h3, one_cells h4, names_pure _ h5, names_pure _ h6]
@[go_sem] theorem l23_did_call {f : SlF} {s : List Int} {c : Cm} (hc : Fits c.ops) {Q : Post3} {k : List Item} {os : List AOper} {d : Option Nat} {e : Env} {σ : Sto} : CallK T Q k os d e σ true i_l23_did [ints f s, encM c] ↔ Run T Q (.ops os :: k) (put e d (gotG (doP s c))) σ := l23_did_spec hc


theorem escrow_Total_loop {f : SlF} {s : List Int} (hs : Good s) : ∀ i, i ≤ s.length → ∀ t : Int, 0 ≤ t → t + (s.drop i).sum ≤ maxN →
    Run T (Res [.tmp 2] (.int .i64 (t + (s.drop i).sum))) (.inLoop escrow_Total.b0 :: escrow_Total.k0) (mkE 19 [(3, .int .i64 t), (8, ints f s), (9, .int .i64 s.length), (10, .int .i64 i)]) [] := by
  refine up_ind ?_ fun i hi ih => ?_
  · intro t _ _
    rw [run_round, run_unfold escrow_Total.b0.eq_1]
    simp (maxSteps := 2000000) only [go_sem, Nat.lt_irrefl, run_unfold escrow_Total.c0.eq_1, run_unfold escrow_Total.c1.eq_1, escrow_Total.k0, List.drop_length, List.sum_nil, Int.add_zero]
  · intro t h0 ht
    have h1 := hs.pos s[i] (List.getElem_mem hi)
    have h2 : 0 ≤ (s.drop (i + 1)).sum := by
      have : ∀ l : List Int, (∀ n ∈ l, 0 ≤ n) → 0 ≤ l.sum := by
        intro l
        induction l with
        | nil => simp
        | cons a l ih => intro h; have := h a (by simp); have := ih fun n hn => h n (by simp [hn]); simp; omega
      exact this _ fun n hn => hs.pos n (List.mem_of_mem_drop hn)
    rw [List.drop_eq_getElem_cons hi, List.sum_cons] at ht ⊢
    have e : IntKind.i64.wrap (t + s[i]) = t + s[i] := wrap_i64 (by unfold maxN at *; omega) (by unfold maxN at *; omega)
    rw [run_round, run_unfold escrow_Total.b0.eq_1]
    have hl := hs.len
    simp (maxSteps := 2000000) only [go_sem, hi, e, wrap_succ (show i < 9223372036854775807 by omega)]
    have := ih (t + s[i]) (by omega) (by omega)
    rw [Int.add_assoc] at this
    exact this

def totalP (s : List Int) : Int := if svalid s then s.sum else 0
theorem escrow_Total_spec {f : SlF} {s : List Int} {lv : List Nat} {σ : Sto} {R : Post} : Cw T true i_escrow_Total [ints f s] lv σ R ↔ R (.int .i64 (totalP s)) σ := by
  refine cw_intro T_escrow_Total (by simp only [go_sem]) (by simp) ?_; rw [run_unfold escrow_Total.main.eq_1]
  unfold totalP
  cases hs : svalid s
  · simp (maxSteps := 2000000) only [go_sem, hs, run_unfold escrow_Total.c0.eq_1, run_unfold escrow_Total.c1.eq_1, escrow_Total.k0]
  · have hG := svalid_good.1 hs
    simp (maxSteps := 2000000) only [go_sem, hs, run_unfold escrow_Total.c0.eq_1, run_unfold escrow_Total.c1.eq_1, escrow_Total.k0]
    have := escrow_Total_loop (f := f) hG 0 (by omega) 0 (by omega) (by rw [List.drop_zero]; have := hG.sum; omega)
    rw [List.drop_zero, Int.zero_add] at this
    exact this
@[go_sem] theorem escrow_Total_call {f : SlF} {s : List Int} {Q : Post3} {k : List Item} {os : List AOper} {d : Option Nat} {e : Env} {σ : Sto} : CallK T Q k os d e σ true i_escrow_Total [ints f s] ↔ Run T Q (.ops os :: k) (put e d (.int .i64 (totalP s))) σ := escrow_Total_spec


/-! ### The reference's shares -/
def inR (n : Int) : Bool := decide (0 ≤ n) && decide (n ≤ maxN)
theorem r23_Valid_loop {f : SlF} {s : List Int} (hf : Fits s) : ∀ i, i ≤ (s.take 6).length → ∀ n : Int, 0 ≤ n → n ≤ i * maxN →
    Run T (Res [.tmp 2] (.bool (((s.take 6).drop i).all inR && (decide (s.length = 6) && decide (n + ((s.take 6).drop i).sum ≤ maxN))))) (.inLoop r23_Valid.b0 :: r23_Valid.k0) (mkE 40 [(0, ints f s), (3, .int .i64 n), (4, .int .i64 i)]) [] := by
  refine up_ind ?_ fun i hi ih => ?_
  · intro n h0 h1
    rw [List.drop_length, List.all_nil, Bool.true_and, List.sum_nil, Int.add_zero]
    have hm : (s.take 6).length = min 6 s.length := List.length_take
    rw [run_round, run_unfold r23_Valid.b0.eq_1]
    by_cases hl : s.length = 6
    · rw [hl] at hm
      simp (maxSteps := 2000000) only [go_sem, hm, hl, Nat.min_self, run_unfold r23_Valid.c0.eq_1, r23_Valid.k0]
      rfl
    · have hl' : ¬ ((s.length : Int) = 6) := by omega
      by_cases h6 : s.length < 6
      · rw [show (s.take 6).length = s.length by omega]
        simp (maxSteps := 2000000) only [go_sem, hl, hl', run_unfold r23_Valid.c0.eq_1, r23_Valid.k0, Bool.false_and]
      · rw [show (s.take 6).length = 6 by omega]
        simp (maxSteps := 2000000) only [go_sem, hl, hl', show (6 : Int) < s.length by omega, run_unfold r23_Valid.c0.eq_1, r23_Valid.k0, Bool.false_and]
  · intro n h0 h1
    have hm : (s.take 6).length = min 6 s.length := List.length_take
    have hs : i < s.length := by omega
    have h6 : (i : Int) < 6 := by omega
    rw [List.drop_eq_getElem_cons hi, List.all_cons, List.sum_cons, List.getElem_take]
    rw [run_round, run_unfold r23_Valid.b0.eq_1]
    by_cases hn : s[i] < 0
    · simp (maxSteps := 2000000) only [go_sem, hs, h6, hn, inR, Int.not_le.2 hn, Bool.false_and]
    by_cases hx : 1000000000000000 < s[i]
    · have hx' : ¬ s[i] ≤ maxN := by unfold maxN; omega
      simp (maxSteps := 2000000) only [go_sem, hs, h6, hn, hx, inR, hx', Bool.false_and, Bool.and_false]
    have hx' : s[i] ≤ maxN := by unfold maxN; omega
    have e : IntKind.i64.wrap (n + s[i]) = n + s[i] := wrap_i64 (by omega) (by unfold maxN at *; omega)
    simp (maxSteps := 2000000) only [go_sem, hs, h6, hn, hx, inR, hx', Int.not_lt.1 hn, e, wrap_succ (show i < 9223372036854775807 by omega)]
    have := ih (n + s[i]) (by omega) (by unfold maxN at *; omega)
    rw [Int.add_assoc] at this
    exact this

theorem svalid_ref {s : List Int} : ((s.take 6).all inR && (decide (s.length = 6) && decide (0 + (s.take 6).sum ≤ maxN))) = svalid s := by
  rw [Bool.eq_iff_iff, svalid_good]
  simp only [Bool.and_eq_true, decide_eq_true_eq, List.all_eq_true, inR]
  constructor
  · rintro ⟨h1, h2, h3⟩
    rw [List.take_of_length_le (by omega)] at h1 h3
    exact ⟨h2, fun n hn => (h1 n hn).1, by omega⟩
  · intro h
    have hl := h.len
    rw [List.take_of_length_le (by omega)]
    exact ⟨h.bnd, h.len, by have := h.sum; omega⟩

theorem r23_Valid_fits {f : SlF} {s : List Int} (hf : Fits s) {lv : List Nat} {σ : Sto} {R : Post} : Cw T true i_r23_Valid [ints f s] lv σ R ↔ R (.bool (svalid s)) σ := by
  refine cw_intro T_r23_Valid (by simp only [go_sem]) (by simp) ?_; rw [run_unfold r23_Valid.main.eq_1]
  simp (maxSteps := 2000000) only [go_sem]
  have := r23_Valid_loop (f := f) hf 0 (by omega) 0 (by omega) (by omega)
  rw [List.drop_zero, svalid_ref] at this
  exact this
@[go_sem] theorem r23_Valid_call {f : SlF} {s : List Int} (hf : Fits s) {Q : Post3} {k : List Item} {os : List AOper} {d : Option Nat} {e : Env} {σ : Sto} : CallK T Q k os d e σ true i_r23_Valid [ints f s] ↔ Run T Q (.ops os :: k) (put e d (.bool (svalid s))) σ := r23_Valid_fits hf

/-! ### Shares and operations of bytes -/
def shF : List Nat → List Int → List Int
  | _, [] => []
  | [], o => o
  | x :: b, _ :: o => ((x % 10 : Nat) : Int) :: shF b o
theorem shF_nil (o : List Int) : shF [] o = o := by cases o <;> rfl
theorem shF_len : ∀ (b : List Nat) (o : List Int), (shF b o).length = o.length
  | _, [] => by simp [shF]
  | [], _ :: _ => rfl
  | x :: b, _ :: o => by simp [shF, shF_len b o]
theorem shF_bnd : ∀ (b : List Nat) (o : List Int), (∀ n ∈ o, 0 ≤ n ∧ n ≤ 9) → ∀ n ∈ shF b o, 0 ≤ n ∧ n ≤ 9
  | _, [], _, n, hn => by simp [shF] at hn
  | [], a :: o, h, n, hn => h n hn
  | x :: b, a :: o, h, n, hn => by
    simp only [shF, List.mem_cons] at hn
    rcases hn with rfl | hn
    · omega
    · exact shF_bnd b o (fun n hn => h n (by simp [hn])) n hn

theorem rem10 (x : Nat) : IntKind.i64.wrap (Int.tmod (x : Int) 10) = ((x % 10 : Nat) : Int) := by
  have : Int.tmod (x : Int) 10 = ((x % 10 : Nat) : Int) := rfl
  rw [this]
  have : x % 10 < 10 := Nat.mod_lt _ (by decide)
  exact wrap_i64 (by omega) (by omega)

theorem r23_Shares_loop {f : SlF} {b : List Nat} (hb : Fits b) {σ : Sto} {R : Post} : ∀ i : Nat, i ≤ 6 → ∀ o : List Int, o.length = 6 →
    (Run T (Ret [.tmp 2] R) (.inLoop r23_Shares.b0 :: r23_Shares.k0) (mkE 28 [(0, bytesV f b), (3, .ref σ.length 6 0 6 1), (4, .int .i64 i)]) (σ ++ [cellsI o]) ↔ R (.ref σ.length 6 0 6 1) (σ ++ [cellsI (o.take i ++ shF (b.drop i) (o.drop i))])) := by
  refine up_ind ?_ fun i hi ih o ho => ?_
  · intro o ho
    rw [run_round, run_unfold r23_Shares.b0.eq_1]
    rw [List.take_of_length_le (by omega), List.drop_eq_nil_of_le (as := o) (by omega), show shF (b.drop 6) [] = [] by cases (b.drop 6) <;> rfl]
    simp (maxSteps := 2000000) only [go_sem, run_unfold r23_Shares.c0.eq_1, r23_Shares.k0, ho, get_last, List.append_nil]
  · rw [run_round, run_unfold r23_Shares.b0.eq_1]
    have h3 : i < o.length := by omega
    by_cases h : i < b.length
    · simp (maxSteps := 2000000) only [go_sem, ho, h, show ((i : Int) < 6) by omega, show (i < 6) by omega, binV_rem, rem10, show i + 1 ≤ 6 by omega, h3, wrap_succ (show i < 9223372036854775807 by omega), show ¬ ((10 : Int) = 0) by omega, get_last, set_last]
      have := ih (o.set i ((b[i] % 10 : Nat) : Int)) (by simp [ho])
      rw [List.drop_eq_getElem_cons h, List.drop_eq_getElem_cons h3, shF]
      rw [take_set_succ h3, List.append_assoc, List.drop_set_of_lt (by omega)] at this
      exact this
    · rw [List.drop_eq_nil_of_le (as := b) (by omega), shF_nil, List.take_append_drop]
      simp (maxSteps := 2000000) only [go_sem, run_unfold r23_Shares.c0.eq_1, r23_Shares.k0, ho, h, show ((i : Int) < 6) by omega, get_last]

def sharesP (b : List Nat) : List Int := shF b zeros
theorem sharesP_len (b : List Nat) : (sharesP b).length = 6 := by rw [sharesP, shF_len]; rfl
theorem sharesP_bnd (b : List Nat) : ∀ n ∈ sharesP b, 0 ≤ n ∧ n ≤ 9 := shF_bnd b zeros (by decide)
theorem sum_bnd : ∀ {l : List Int} {m : Int}, (∀ n ∈ l, n ≤ m) → l.sum ≤ l.length * m
  | [], m, _ => by simp
  | a :: l, m, h => by
    have h1 := h a (by simp)
    have h2 := sum_bnd (l := l) (m := m) fun n hn => h n (by simp [hn])
    rw [List.sum_cons, List.length_cons, Int.natCast_add, Int.add_mul]
    omega
theorem sharesP_good (b : List Nat) : Good (sharesP b) :=
  ⟨sharesP_len b, fun n hn => (sharesP_bnd b n hn).1, by have := sum_bnd (m := 9) fun n hn => (sharesP_bnd b n hn).2; rw [sharesP_len] at this; unfold maxN; omega⟩

theorem r23_Shares_shared {f : SlF} {b : List Nat} (hb : Fits b) {σ : Sto} {R : Post} : Cw T false i_r23_Shares [bytesV f b] [] σ R ↔ R (.ref σ.length 6 0 6 1) (σ ++ [cellsI (sharesP b)]) := by
  rw [cw_enter T_r23_Shares (by simp), run_unfold r23_Shares.main.eq_1]
  simp (maxSteps := 2000000) only [go_sem]
  rw [show mksliceV 1 8 [AVal.int IntKind.i64 0] (AVal.int IntKind.i64 6) (AVal.int IntKind.i64 6) σ = some (.ref σ.length 6 0 6 1, σ ++ [.cells false (zeros.map fun n => .int .i64 n)]) from rfl]
  simp (maxSteps := 2000000) only [go_sem]
  exact r23_Shares_loop hb 0 (by omega) zeros rfl

theorem r23_Shares_spec {f : SlF} {b : List Nat} (hb : Fits b) {lv : List Nat} {σ : Sto} {R : Post} : Cw T true i_r23_Shares [bytesV f b] lv σ R ↔ R (ints .lst (sharesP b)) σ := by
  refine cw_intro T_r23_Shares (by simp only [go_sem]) (by simp) ?_; rw [run_unfold r23_Shares.main.eq_1]
  simp (maxSteps := 2000000) only [go_sem]
  rw [show mksliceV 1 8 [AVal.int IntKind.i64 0] (AVal.int IntKind.i64 6) (AVal.int IntKind.i64 6) [] = some (.ref ([] : Sto).length 6 0 6 1, [] ++ [cellsI zeros]) from rfl]
  simp (maxSteps := 2000000) only [go_sem]
  refine (r23_Shares_loop (σ := []) hb 0 (by omega) zeros rfl).2 ?_
  show snapA [cellsI (sharesP b)] (63 + 1) _ = _
  have h := snap_ints (n := 62) (σ := [cellsI (sharesP b)]) (o := 0) (c := sharesP b) rfl
  rw [sharesP_len] at h
  exact h
@[go_sem] theorem r23_Shares_call {f : SlF} {b : List Nat} (hb : Fits b) {Q : Post3} {k : List Item} {os : List AOper} {d : Option Nat} {e : Env} {σ : Sto} : CallK T Q k os d e σ true i_r23_Shares [bytesV f b] ↔ Run T Q (.ops os :: k) (put e d (ints .lst (sharesP b))) σ := r23_Shares_spec hb

end Go.Abs
/- Walks of chapter 23: commits of bytes. -/
set_option linter.unusedSimpArgs false
set_option linter.unusedVariables false
namespace Go.Abs
open Go
attribute [local go_sem_proc] Nat.reduceLT Nat.reduceEqDiff Nat.reduceLeDiff Nat.reduceAdd Nat.reduceSub Nat.reduceMul Int.reduceLT Int.reduceLE Int.reduceEq Int.reduceNeg
attribute [local go_sem_proc ↓] reduceIte

structure Tri where
  a : Nat
  b : Nat
  c : Nat
abbrev cells3 (x : Tri) : List AVal := [.int .u8 ((x.a : Nat) : Int), .int .u8 ((x.b : Nat) : Int), .int .u8 ((x.c : Nat) : Int)]
abbrev trisV (f : SlF) (l : List Tri) : AVal := sv 3 f (l.map fun x => .agg (cells3 x))

theorem iaddrAV_0 {c m o gen off : Nat} {kd : IntKind} {σ : Sto} (h : 0 < c) : iaddrAV c m (.ptr o gen off) (.int kd 0) σ = some (.ptr o gen (off + 0 * m), σ) := by
  have := iaddrAV_ptr (c := c) (m := m) (o := o) (gen := gen) (off := off) (i := 0) (kd := kd) (σ := σ)
  rw [if_pos h] at this; exact this
theorem iaddrAV_1 {c m o gen off : Nat} {kd : IntKind} {σ : Sto} (h : 1 < c) : iaddrAV c m (.ptr o gen off) (.int kd 1) σ = some (.ptr o gen (off + 1 * m), σ) := by
  have := iaddrAV_ptr (c := c) (m := m) (o := o) (gen := gen) (off := off) (i := 1) (kd := kd) (σ := σ)
  rw [if_pos h] at this; exact this
theorem iaddrAV_2 {c m o gen off : Nat} {kd : IntKind} {σ : Sto} (h : 2 < c) : iaddrAV c m (.ptr o gen off) (.int kd 2) σ = some (.ptr o gen (off + 2 * m), σ) := by
  have := iaddrAV_ptr (c := c) (m := m) (o := o) (gen := gen) (off := off) (i := 2) (kd := kd) (σ := σ)
  rw [if_pos h] at this; exact this
attribute [go_sem] iaddrAV_0 iaddrAV_1 iaddrAV_2

def opB (x : Tri) : Opr := ⟨if x.a % 2 = 1 then 6 else 5, 0, 0, if x.a % 2 = 1 then ((x.c % 4 : Nat) : Int) else 0, .nils, .nils, 2, ((1 + x.b % 5 : Nat) : Int), ⟨#[]⟩, rfl, rfl, rfl, rfl⟩

theorem r23_Op_spec {x : Tri} {lv : List Nat} {σ : Sto} {R : Post} : Cw T true i_r23_Op [.agg (cells3 x)] lv σ R ↔ R (.agg (encO (opB x))) σ := by
  refine cw_intro T_r23_Op (by simp only [go_sem]) (by simp) ?_; rw [run_unfold r23_Op.main.eq_1]
  have e1 : IntKind.i64.wrap (Int.tmod (x.b : Int) 5) = ((x.b % 5 : Nat) : Int) := by
    have : Int.tmod (x.b : Int) 5 = ((x.b % 5 : Nat) : Int) := rfl
    rw [this]
    have : x.b % 5 < 5 := Nat.mod_lt _ (by decide)
    exact wrap_i64 (by omega) (by omega)
  have e2 : IntKind.i64.wrap (1 + ((x.b % 5 : Nat) : Int)) = ((1 + x.b % 5 : Nat) : Int) := by
    have : x.b % 5 < 5 := Nat.mod_lt _ (by decide)
    rw [wrap_i64 (by omega) (by omega)]; omega
  have e3 : IntKind.i64.wrap (Int.tmod (x.c : Int) 4) = ((x.c % 4 : Nat) : Int) := by
    have : Int.tmod (x.c : Int) 4 = ((x.c % 4 : Nat) : Int) := rfl
    rw [this]
    have : x.c % 4 < 4 := Nat.mod_lt _ (by decide)
    exact wrap_i64 (by omega) (by omega)
  have e4 : Int.tmod (x.a : Int) 2 = ((x.a % 2 : Nat) : Int) := rfl
  unfold opB
  by_cases h : x.a % 2 = 1
  · simp (maxSteps := 2000000) only [go_sem, run_unfold r23_Op.c0.eq_1, binV_rem, e1, e2, e3, e4, h, show ¬ ((5 : Int) = 0) by omega, show ¬ ((2 : Int) = 0) by omega, show ¬ ((4 : Int) = 0) by omega]
  · simp (maxSteps := 2000000) only [go_sem, run_unfold r23_Op.c0.eq_1, binV_rem, e1, e2, e3, e4, h, show ¬ (((x.a % 2 : Nat) : Int) = 1) by omega, show ¬ ((5 : Int) = 0) by omega, show ¬ ((2 : Int) = 0) by omega, show ¬ ((4 : Int) = 0) by omega]
@[go_sem] theorem r23_Op_call {x : Tri} {Q : Post3} {k : List Item} {os : List AOper} {d : Option Nat} {e : Env} {σ : Sto} : CallK T Q k os d e σ true i_r23_Op [.agg (cells3 x)] ↔ Run T Q (.ops os :: k) (put e d (.agg (encO (opB x)))) σ := r23_Op_spec


/-- the commit of a station, of bytes -/
def comB (st : Int) (l : List Tri) : Cm := ⟨st, 1, .lst, zeros, 0, if l.isEmpty then .nil else .lst, (l.take 3).map opB⟩

theorem encO_one (o : Opr) : (encO o).all AVal.one = true := by simp only [encO, List.all_cons, List.all_nil, o.k1, o.r1]; rfl
theorem encO_pure (o : Opr) : AVal.pures (encO o) = true := by simp only [encO, AVal.pures, AVal.namesL, o.k2, o.r2]; rfl
theorem app_nil {σ : Sto} {o : Nat} {y : Opr} (h : σ[o]? = some (.cells false (encO y))) : appendV 9 112 .nils (.ref o 9 0 1 9) σ = some (.ref σ.length 9 0 1 9, σ ++ [.cells false (encO y)]) := by
  have hr : rowOf σ (.ref o 9 0 1 9) = some (1, encO y) := by simp [rowOf, h]
  simp only [appendV, hr, encO_one]
  simp [maxBytes]
theorem app_more {σ : Sto} {o o' : Nat} {X : List Opr} {y : Opr} (h : σ[o]? = some (.cells false (X.flatMap encO))) (h' : σ[o']? = some (.cells false (encO y))) (hb : X.length < 100) :
    appendV 9 112 (.ref o (X.length * 9) 0 X.length 9) (.ref o' 9 0 1 9) σ = some (.ref o ((X ++ [y]).length * 9) 0 (X ++ [y]).length 9, σ.set o (.cells false ((X ++ [y]).flatMap encO))) :=
  appendV_struct (g := encO) (by decide) (fun _ => rfl) encO_one h h' (by unfold maxBytes; omega)
theorem iaddrV_c0 {k : Nat} {f : SlF} {a : AVal} {xs : List AVal} {kd : IntKind} {σ : Sto} : iaddrV k (sv k f (a :: xs)) (.int kd 0) σ = some (.fptr a.cells, σ) := by
  have := iaddrV_sv (σ := σ) (k := k) (f := f) (xs := a :: xs) (kd := kd) (i := 0) (v := a) rfl
  exact this
theorem iaddrV_c1 {k : Nat} {f : SlF} {a b : AVal} {xs : List AVal} {kd : IntKind} {σ : Sto} : iaddrV k (sv k f (b :: a :: xs)) (.int kd 1) σ = some (.fptr a.cells, σ) := by
  have := iaddrV_sv (σ := σ) (k := k) (f := f) (xs := b :: a :: xs) (kd := kd) (i := 1) (v := a) rfl
  exact this
theorem iaddrV_c2 {k : Nat} {f : SlF} {a b c : AVal} {xs : List AVal} {kd : IntKind} {σ : Sto} : iaddrV k (sv k f (b :: c :: a :: xs)) (.int kd 2) σ = some (.fptr a.cells, σ) := by
  have := iaddrV_sv (σ := σ) (k := k) (f := f) (xs := b :: c :: a :: xs) (kd := kd) (i := 2) (v := a) rfl
  exact this
theorem w01 : IntKind.i64.wrap (0 + 1) = 1 := by decide
theorem w11 : IntKind.i64.wrap (1 + 1) = 2 := by decide
theorem w21 : IntKind.i64.wrap (2 + 1) = 3 := by decide

theorem snap_oprs {σ : Sto} {o : Nat} {X : List Opr} (h : σ[o]? = some (.cells false (X.flatMap encO))) : snapA σ 63 (.ref o (X.length * 9) 0 X.length 9) = some (.list 9 (X.map fun o => .agg (encO o))) := by
  have hl : (X.flatMap encO).length = X.length * 9 := flatMap_len (k := 9) (g := encO) (fun _ => rfl) X
  have hp : AVal.pures (X.flatMap encO) = true := v_names_flat encO_pure X
  rw [show (63 : Nat) = 61 + 2 from rfl, snapA_refN h hl rfl (by decide) hp, chunk_flatMap (k := 9) (g := encO) (by decide) (fun _ => rfl)]
theorem snap_o1 {σ : Sto} {x : Opr} (h : σ[3]? = some (.cells false ([x].flatMap encO))) : snapA σ 63 (.ref 3 9 0 1 9) = some (.list 9 [.agg (encO x)]) := snap_oprs (X := [x]) h
theorem snap_o2 {σ : Sto} {x y : Opr} (h : σ[3]? = some (.cells false ([x, y].flatMap encO))) : snapA σ 63 (.ref 3 18 0 2 9) = some (.list 9 [.agg (encO x), .agg (encO y)]) := snap_oprs (X := [x, y]) h
theorem snap_o3 {σ : Sto} {x y z : Opr} (h : σ[3]? = some (.cells false ([x, y, z].flatMap encO))) : snapA σ 63 (.ref 3 27 0 3 9) = some (.list 9 [.agg (encO x), .agg (encO y), .agg (encO z)]) := snap_oprs (X := [x, y, z]) h

theorem l23_commit_spec {f : SlF} {st : Int} {l : List Tri} (hl : Fits l) {lv : List Nat} {σ : Sto} {R : Post} : Cw T true i_l23_commit [.int .i64 st, trisV f l] lv σ R ↔ R (encM (comB st l)) σ := by
  refine cw_intro T_l23_commit (by simp only [go_sem]) (by simp) ?_; rw [run_unfold l23_commit.main.eq_1]
  unfold comB
  match l, hl with
  | [], _ =>
    simp (maxSteps := 2000000) only [go_sem]
    rw [run_round, run_unfold l23_commit.b0.eq_1]
    simp (maxSteps := 2000000) only [go_sem, run_unfold l23_commit.c0.eq_1, l23_commit.k0, List.isEmpty_nil]
    rfl
  | [x], _ =>
    simp (maxSteps := 2000000) only [go_sem]
    rw [run_round, run_unfold l23_commit.b0.eq_1]
    simp (maxSteps := 2000000) only [go_sem, trisV, List.map_cons, List.map_nil, List.length_cons, List.length_nil, iaddrV_c0, iaddrV_c1, iaddrV_c2, w01, w11, w21, List.length_map, show (0 : Int) < ((0 + 1 : Nat) : Int) by omega, show (0 : Int) < 3 by omega]
    refine after_of (app_nil (y := opB x) rfl) ?_
    simp (maxSteps := 2000000) only [go_sem, trisV, List.map_cons, List.map_nil, List.length_cons, List.length_nil, iaddrV_c0, iaddrV_c1, iaddrV_c2, w01, w11, w21, List.length_map, List.append_eq, List.flatMap_cons, List.flatMap_nil, List.append_nil]
    rw [run_round, run_unfold l23_commit.b0.eq_1]
    simp (maxSteps := 2000000) only [go_sem, run_unfold l23_commit.c0.eq_1, l23_commit.k0, trisV, List.map_cons, List.map_nil, List.length_cons, List.length_nil, iaddrV_c0, iaddrV_c1, iaddrV_c2, w01, w11, w21, List.length_map, show ¬ (1 : Int) < ((0 + 1 : Nat) : Int) by omega, List.isEmpty_cons]
    rw [snap_o1 (x := opB x)]
    · rfl
    · rfl
  | [x, y], _ =>
    simp (maxSteps := 2000000) only [go_sem]
    rw [run_round, run_unfold l23_commit.b0.eq_1]
    simp (maxSteps := 2000000) only [go_sem, trisV, List.map_cons, List.map_nil, List.length_cons, List.length_nil, iaddrV_c0, iaddrV_c1, iaddrV_c2, w01, w11, w21, List.length_map, show (0 : Int) < ((0 + 1 + 1 : Nat) : Int) by omega, show (0 : Int) < 3 by omega]
    refine after_of (app_nil (y := opB x) rfl) ?_
    simp (maxSteps := 2000000) only [go_sem, trisV, List.map_cons, List.map_nil, List.length_cons, List.length_nil, iaddrV_c0, iaddrV_c1, iaddrV_c2, w01, w11, w21, List.length_map, List.append_eq, List.flatMap_cons, List.flatMap_nil, List.append_nil]
    rw [run_round, run_unfold l23_commit.b0.eq_1]
    simp (maxSteps := 2000000) only [go_sem, trisV, List.map_cons, List.map_nil, List.length_cons, List.length_nil, iaddrV_c0, iaddrV_c1, iaddrV_c2, w01, w11, w21, List.length_map, show (1 : Int) < ((0 + 1 + 1 : Nat) : Int) by omega, show (1 : Int) < 3 by omega]
    refine after_of (app_more (X := [opB x]) (y := opB y) rfl rfl (by simp)) ?_
    simp (maxSteps := 2000000) only [go_sem, trisV, List.map_cons, List.map_nil, List.length_cons, List.length_nil, iaddrV_c0, iaddrV_c1, iaddrV_c2, w01, w11, w21, List.length_map, List.append_eq, List.flatMap_cons, List.flatMap_nil, List.append_nil]
    rw [run_round, run_unfold l23_commit.b0.eq_1]
    simp (maxSteps := 2000000) only [go_sem, run_unfold l23_commit.c0.eq_1, l23_commit.k0, trisV, List.map_cons, List.map_nil, List.length_cons, List.length_nil, iaddrV_c0, iaddrV_c1, iaddrV_c2, w01, w11, w21, List.length_map, show ¬ (2 : Int) < ((0 + 1 + 1 : Nat) : Int) by omega, List.isEmpty_cons]
    rw [snap_o2 (x := opB x) (y := opB y)]
    · rfl
    · rfl
  | [x, y, z], _ =>
    simp (maxSteps := 2000000) only [go_sem]
    rw [run_round, run_unfold l23_commit.b0.eq_1]
    simp (maxSteps := 2000000) only [go_sem, trisV, List.map_cons, List.map_nil, List.length_cons, List.length_nil, iaddrV_c0, iaddrV_c1, iaddrV_c2, w01, w11, w21, List.length_map, show (0 : Int) < ((0 + 1 + 1 + 1 : Nat) : Int) by omega, show (0 : Int) < 3 by omega]
    refine after_of (app_nil (y := opB x) rfl) ?_
    simp (maxSteps := 2000000) only [go_sem, trisV, List.map_cons, List.map_nil, List.length_cons, List.length_nil, iaddrV_c0, iaddrV_c1, iaddrV_c2, w01, w11, w21, List.length_map, List.append_eq, List.flatMap_cons, List.flatMap_nil, List.append_nil]
    rw [run_round, run_unfold l23_commit.b0.eq_1]
    simp (maxSteps := 2000000) only [go_sem, trisV, List.map_cons, List.map_nil, List.length_cons, List.length_nil, iaddrV_c0, iaddrV_c1, iaddrV_c2, w01, w11, w21, List.length_map, show (1 : Int) < ((0 + 1 + 1 + 1 : Nat) : Int) by omega, show (1 : Int) < 3 by omega]
    refine after_of (app_more (X := [opB x]) (y := opB y) rfl rfl (by simp)) ?_
    simp (maxSteps := 2000000) only [go_sem, trisV, List.map_cons, List.map_nil, List.length_cons, List.length_nil, iaddrV_c0, iaddrV_c1, iaddrV_c2, w01, w11, w21, List.length_map, List.append_eq, List.flatMap_cons, List.flatMap_nil, List.append_nil]
    rw [run_round, run_unfold l23_commit.b0.eq_1]
    simp (maxSteps := 2000000) only [go_sem, trisV, List.map_cons, List.map_nil, List.length_cons, List.length_nil, iaddrV_c0, iaddrV_c1, iaddrV_c2, w01, w11, w21, List.length_map, show (2 : Int) < ((0 + 1 + 1 + 1 : Nat) : Int) by omega, show (2 : Int) < 3 by omega]
    refine after_of (app_more (X := [opB x, opB y]) (y := opB z) rfl rfl (by simp)) ?_
    simp (maxSteps := 2000000) only [go_sem, trisV, List.map_cons, List.map_nil, List.length_cons, List.length_nil, iaddrV_c0, iaddrV_c1, iaddrV_c2, w01, w11, w21, List.length_map, List.append_eq, List.flatMap_cons, List.flatMap_nil, List.append_nil]
    rw [run_round, run_unfold l23_commit.b0.eq_1]
    simp (maxSteps := 2000000) only [go_sem, run_unfold l23_commit.c0.eq_1, l23_commit.k0, trisV, List.map_cons, List.map_nil, List.length_cons, List.length_nil, iaddrV_c0, iaddrV_c1, iaddrV_c2, w01, w11, w21, List.length_map, show ¬ (3 : Int) < ((0 + 1 + 1 + 1 : Nat) : Int) by omega, List.isEmpty_cons]
    rw [snap_o3 (x := opB x) (y := opB y) (z := opB z)]
    · rfl
    · rfl
  | x :: y :: z :: u :: r, _ =>
    simp (maxSteps := 2000000) only [go_sem]
    rw [run_round, run_unfold l23_commit.b0.eq_1]
    simp (maxSteps := 2000000) only [go_sem, trisV, List.map_cons, List.map_nil, List.length_cons, List.length_nil, iaddrV_c0, iaddrV_c1, iaddrV_c2, w01, w11, w21, List.length_map, show (0 : Int) < ((r.length + 1 + 1 + 1 + 1 : Nat) : Int) by omega, show (0 : Int) < 3 by omega]
    refine after_of (app_nil (y := opB x) rfl) ?_
    simp (maxSteps := 2000000) only [go_sem, trisV, List.map_cons, List.map_nil, List.length_cons, List.length_nil, iaddrV_c0, iaddrV_c1, iaddrV_c2, w01, w11, w21, List.length_map, List.append_eq, List.flatMap_cons, List.flatMap_nil, List.append_nil]
    rw [run_round, run_unfold l23_commit.b0.eq_1]
    simp (maxSteps := 2000000) only [go_sem, trisV, List.map_cons, List.map_nil, List.length_cons, List.length_nil, iaddrV_c0, iaddrV_c1, iaddrV_c2, w01, w11, w21, List.length_map, show (1 : Int) < ((r.length + 1 + 1 + 1 + 1 : Nat) : Int) by omega, show (1 : Int) < 3 by omega]
    refine after_of (app_more (X := [opB x]) (y := opB y) rfl rfl (by simp)) ?_
    simp (maxSteps := 2000000) only [go_sem, trisV, List.map_cons, List.map_nil, List.length_cons, List.length_nil, iaddrV_c0, iaddrV_c1, iaddrV_c2, w01, w11, w21, List.length_map, List.append_eq, List.flatMap_cons, List.flatMap_nil, List.append_nil]
    rw [run_round, run_unfold l23_commit.b0.eq_1]
    simp (maxSteps := 2000000) only [go_sem, trisV, List.map_cons, List.map_nil, List.length_cons, List.length_nil, iaddrV_c0, iaddrV_c1, iaddrV_c2, w01, w11, w21, List.length_map, show (2 : Int) < ((r.length + 1 + 1 + 1 + 1 : Nat) : Int) by omega, show (2 : Int) < 3 by omega]
    refine after_of (app_more (X := [opB x, opB y]) (y := opB z) rfl rfl (by simp)) ?_
    simp (maxSteps := 2000000) only [go_sem, trisV, List.map_cons, List.map_nil, List.length_cons, List.length_nil, iaddrV_c0, iaddrV_c1, iaddrV_c2, w01, w11, w21, List.length_map, List.append_eq, List.flatMap_cons, List.flatMap_nil, List.append_nil]
    rw [run_round, run_unfold l23_commit.b0.eq_1]
    simp (maxSteps := 2000000) only [go_sem, run_unfold l23_commit.c0.eq_1, l23_commit.k0, trisV, List.map_cons, List.map_nil, List.length_cons, List.length_nil, iaddrV_c0, iaddrV_c1, iaddrV_c2, w01, w11, w21, List.length_map, show (3 : Int) < ((r.length + 1 + 1 + 1 + 1 : Nat) : Int) by omega, List.isEmpty_cons]
    rw [snap_o3 (x := opB x) (y := opB y) (z := opB z)]
    · rfl
    · rfl
@[go_sem] theorem l23_commit_call {f : SlF} {st : Int} {l : List Tri} (hl : Fits l) {Q : Post3} {k : List Item} {os : List AOper} {d : Option Nat} {e : Env} {σ : Sto} : CallK T Q k os d e σ true i_l23_commit [.int .i64 st, trisV f l] ↔ Run T Q (.ops os :: k) (put e d (encM (comB st l))) σ := l23_commit_spec hl
end Go.Abs
