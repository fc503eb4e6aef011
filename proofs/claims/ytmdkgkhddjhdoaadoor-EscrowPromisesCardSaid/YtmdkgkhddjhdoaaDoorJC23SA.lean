/- Parts of the proof: C23SA, C23T, C23U, C23V, C23W, C23X, C23ZA, C23ZB, C23ZC, C23ZD, C23XB, C23ZE, C23ZF, C23ZG. -/
import Derived.Test.YtmdkgkhddjhdoaaDoorJC23L
import Derived.Test.YtmdkgkhddjhdoaaDoorAbsSort
import Derived.Test.YtmdkgkhddjhdoaaDoorAbsVal2
import Derived.Test.YtmdkgkhddjhdoaaDoorJAbsLaw
import Derived.Test.YtmdkgkhddjhdoaaDoorJD20ZC
set_option linter.all false
/- Chapter 23: what a commit has seen. -/
set_option linter.unusedSimpArgs false
set_option linter.unusedVariables false
set_option maxRecDepth 10000
namespace Go.Abs
open Go

def sees2 (c x : Cm) : Bool := sees c.com x.com
def bef2 (x y : Cm) : Bool := befC x.com y.com
@[go_sem] theorem r20_Sees_M {c a : Cm} {Q : Post3} {k : List Item} {os : List AOper} {d : Option Nat} {e : Env} {σ : Sto} : CallK T Q k os d e σ true i_r20_Sees [encM c, encM a] ↔ Run T Q (.ops os :: k) (put e d (.bool (sees2 c a))) σ := r20_Sees_call (c := c.com) (a := a.com)
@[go_sem] theorem cut_Sees_M {c a : Cm} {Q : Post3} {k : List Item} {os : List AOper} {d : Option Nat} {e : Env} {σ : Sto} : CallK T Q k os d e σ true i_cut_Sees [encM c, encM a] ↔ Run T Q (.ops os :: k) (put e d (.bool (sees2 c a))) σ := cut_Sees_call (c := c.com) (a := a.com)
@[go_sem] theorem r20_Before_M {c a : Cm} {Q : Post3} {k : List Item} {os : List AOper} {d : Option Nat} {e : Env} {σ : Sto} : CallK T Q k os d e σ true i_r20_Before [encM c, encM a] ↔ Run T Q (.ops os :: k) (put e d (.bool (bef2 c a))) σ := r20_Before_call (a := c.com) (b := a.com)
@[go_sem] theorem cut_Before_M {c a : Cm} {Q : Post3} {k : List Item} {os : List AOper} {d : Option Nat} {e : Env} {σ : Sto} : CallK T Q k os d e σ true i_cut_Before [encM c, encM a] ↔ Run T Q (.ops os :: k) (put e d (.bool (bef2 c a))) σ := cut_Before_call (a := c.com) (b := a.com)

def seenP (l : List Cm) (c : Cm) : List Cm := isort bef2 (l.filter (sees2 c))

theorem seenP_len {l : List Cm} {c : Cm} : (seenP l c).length ≤ l.length := by
  unfold seenP
  rw [isort_len]
  exact List.length_filter_le ..
theorem seenP_mem {l : List Cm} {c x : Cm} (h : x ∈ seenP l c) : x ∈ l := (List.mem_filter.1 ((isort_mem bef2).1 h)).1

def covP (s : List Int) (l : List Cm) (c : Cm) : Bool := (doP (playL (stP s) (seenP l c)).1 c).isSome

theorem playL_fits : ∀ {l : List Cm} {s : List Int}, Fits s → Fits (playL s l).1
  | [], s, h => h
  | c :: r, s, h => by
    rw [playL]
    cases hp : doP s c with
    | none => exact playL_fits h
    | some y => exact playL_fits (doP_some hp).2.2.2.2.fits

theorem cellsM_one (c : Cm) : (cellsM c).all AVal.one = true := by simp only [cellsM, List.all_cons, List.all_nil, sv_one]; rfl
theorem cellsM_pureS (c : Cm) : AVal.pures (cellsM c) = true := by
  simp only [cellsM, AVal.pures, AVal.namesL, AVal.names, sv_pure, Bool.and_self]

end Go.Abs
/- Chapter 23: what a commit has seen: cloned, deleted, sorted. -/
set_option linter.unusedSimpArgs false
set_option linter.unusedVariables false
set_option maxRecDepth 10000
namespace Go.Abs
open Go
attribute [local go_sem_proc] Nat.reduceLT Nat.reduceEqDiff Nat.reduceLeDiff Nat.reduceAdd Nat.reduceSub Nat.reduceMul Int.reduceLT Int.reduceLE Int.reduceEq Int.reduceNeg
attribute [local go_sem_proc ↓] reduceIte

abbrev ob (X : List Cm) : AObj := .cells false (X.flatMap cellsM)

theorem escrow_Covered_1_spec {c x : Cm} {lv : List Nat} {σ : Sto} {R : Post} : Cw T true i_escrow_Covered_1 [encM x, .fptr (cellsM c)] lv σ R ↔ R (.bool (!sees2 c x)) σ := by
  refine cw_intro T_escrow_Covered_1 (by simp only [go_sem]) (by simp) ?_; rw [run_unfold escrow_Covered_1.main.eq_1]
  simp (maxSteps := 2000000) only [go_sem]
@[go_sem] theorem escrow_Covered_1_call {c x : Cm} {Q : Post3} {k : List Item} {os : List AOper} {d : Option Nat} {e : Env} {σ : Sto} : CallK T Q k os d e σ true i_escrow_Covered_1 [encM x, .fptr (cellsM c)] ↔ Run T Q (.ops os :: k) (put e d (.bool (!sees2 c x))) σ := escrow_Covered_1_spec


theorem snap_ptrM {σ : Sto} {n : Nat} {c : Cm} (h : σ[0]? = some (.cells false (cellsM c))) : snapA σ (n + 2) (.ptr 0 5 0) = some (.fptr (cellsM c)) := by
  have h0 : (AVal.ptr 0 5 0).pure = false := by simp [AVal.names]
  rw [snapA, h0]
  simp only [Bool.false_eq_true, if_false, h, List.drop_zero, mapM_snapN (cellsM_pureS c), Option.map_some]
  rfl
theorem snap_cloM {σ : Sto} {n : Nat} {f : Fn} {c : Cm} (h : σ[0]? = some (.cells false (cellsM c))) : snapA σ (n + 3) (.clo f [] [.ptr 0 5 0]) = some (.clo f [] [.fptr (cellsM c)]) := by
  have h0 : (AVal.clo f [] [.ptr 0 5 0]).pure = false := by simp [AVal.names, AVal.namesL]
  rw [snapA, h0]
  simp only [Bool.false_eq_true, if_false, List.mapM_cons, List.mapM_nil, snap_ptrM h, Option.pure_def, Option.bind_eq_bind, Option.bind_some]

theorem slices_IndexFunc_M_loop {f : SlF} {l : List Cm} {c : Cm} (hl : l.length ≤ 1000000) : ∀ i, i ≤ l.length →
    Run T (Res [.tmp 4] (.int .i64 (match (l.drop i).findIdx? (fun x => !sees2 c x) with | some j => (i + j : Nat) | none => -1))) (.inLoop slices_IndexFunc_Commit.b0 :: slices_IndexFunc_Commit.k0) (mkE 19 [(0, cms f l), (1, .clo (.func i_escrow_Covered_1) [] [.fptr (cellsM c)]), (7, .int .i64 l.length), (8, .int .i64 i)]) [] := by
  refine up_ind ?_ fun i hi ih => ?_
  · rw [run_round, run_unfold slices_IndexFunc_Commit.b0.eq_1]
    simp (maxSteps := 2000000) only [go_sem, Nat.lt_irrefl, run_unfold slices_IndexFunc_Commit.c0.eq_1, run_unfold slices_IndexFunc_Commit.c1.eq_1, slices_IndexFunc_Commit.k0, List.drop_length, List.findIdx?_nil]
  · rw [run_round, run_unfold slices_IndexFunc_Commit.b0.eq_1]
    rw [List.drop_eq_getElem_cons hi]
    simp (maxSteps := 2000000) only [go_sem, hi, List.findIdx?_cons, List.nil_append, List.cons_append]
    cases hp : sees2 c l[i]
    · simp (maxSteps := 2000000) only [go_sem, hp, Nat.add_zero]
    · simp (maxSteps := 2000000) only [go_sem, hp, wrap_succ (show i < 9223372036854775807 by omega)]
      refine Eq.mp (congrArg (fun v => Run T (Res [.tmp 4] (.int .i64 v)) _ _ _) ?_) ih
      cases (l.drop (i + 1)).findIdx? (fun x => !sees2 c x) with
      | none => rfl
      | some j => simp; omega

theorem slices_IndexFunc_M {f : SlF} {l : List Cm} {c : Cm} (hl : l.length ≤ 1000000) {lv : List Nat} {σ : Sto} {R : Post} : Cw T true i_slices_IndexFunc_Commit [cms f l, .clo (.func i_escrow_Covered_1) [] [.fptr (cellsM c)]] lv σ R ↔ R (.int .i64 (idxOf (fun x => !sees2 c x) l)) σ := by
  have hp : AVal.pures (cellsM c) = true := cellsM_pureS c
  refine cw_intro T_slices_IndexFunc_Commit (by simp [AVal.pures, AVal.namesL, AVal.names, sv_pure]) (by simp) ?_
  rw [run_unfold slices_IndexFunc_Commit.main.eq_1]
  simp (maxSteps := 2000000) only [go_sem]
  have := slices_IndexFunc_M_loop (f := f) (c := c) hl 0 (by omega)
  simp only [List.drop_zero, Nat.zero_add] at this
  exact this

/-- the list is in memory -/
theorem index_live {l : List Cm} {c : Cm} (hl : l.length ≤ 1000000) {σ : Sto} (h0 : σ[0]? = some (.cells false (cellsM c))) (h1 : σ[1]? = some (ob l)) {Q : Post3} {k : List Item} {os : List AOper} {d : Option Nat} {e : Env} :
    CallK T Q k os d e σ true i_slices_IndexFunc_Commit [.ref 1 (l.length * 5) 0 l.length 5, .clo (.func i_escrow_Covered_1) [] [.ptr 0 5 0]] ↔ Run T Q (.ops os :: k) (put e d (.int .i64 (idxOf (fun x => !sees2 c x) l))) σ := by
  refine callK_live T_slices_IndexFunc_Commit (as := [cms .lst l, .clo (.func i_escrow_Covered_1) [] [.fptr (cellsM c)]]) (slices_IndexFunc_M hl) ?_ (by simp [AVal.pures, AVal.namesL, AVal.names, sv_pure]) rfl
  have s1 := snap_structs (n := 62) (o := 1) (k := 5) (g := cellsM) (l := l) (by decide) (by decide) (fun _ => rfl) cellsM_pureS h1
  have s2 := snap_cloM (n := 61) (f := .func i_escrow_Covered_1) h0
  rw [show snapDepth = 64 from rfl]
  simp only [List.mapM_cons, List.mapM_nil, s1, s2, Option.pure_def, Option.bind_eq_bind, Option.bind_some, cms, sv_lst]

theorem covered1_live {c x : Cm} {σ : Sto} (h0 : σ[0]? = some (.cells false (cellsM c))) {Q : Post3} {k : List Item} {os : List AOper} {d : Option Nat} {e : Env} :
    CallK T Q k os d e σ true i_escrow_Covered_1 [encM x, .ptr 0 5 0] ↔ Run T Q (.ops os :: k) (put e d (.bool (!sees2 c x))) σ := by
  refine callK_live T_escrow_Covered_1 (as := [encM x, .fptr (cellsM c)]) escrow_Covered_1_spec ?_ (by simp [AVal.pures, AVal.namesL, AVal.names, sv_pure]) rfl
  have s1 : snapA σ 64 (encM x) = some (encM x) := snapA_step (by have := cellsM_pureS x; simpa only [encM, AVal.names] using this)
  have s2 := snap_ptrM (n := 62) h0
  rw [show snapDepth = 64 from rfl]
  simp only [List.mapM_cons, List.mapM_nil, s1, s2, Option.pure_def, Option.bind_eq_bind, Option.bind_some]
end Go.Abs
/- Chapter 23: commits that were not seen are deleted. -/
set_option linter.unusedSimpArgs false
set_option linter.unusedVariables false
set_option maxRecDepth 10000
namespace Go.Abs
open Go
attribute [local go_sem_proc] Nat.reduceLT Nat.reduceEqDiff Nat.reduceLeDiff Nat.reduceAdd Nat.reduceSub Nat.reduceMul Int.reduceLT Int.reduceLE Int.reduceEq Int.reduceNeg
attribute [local go_sem_proc ↓] reduceIte

theorem cellsM_len (c : Cm) : (cellsM c).length = 5 := rfl
theorem ob_len (X : List Cm) : (X.flatMap cellsM).length = X.length * 5 := flatMap_len cellsM_len X
theorem ob_drop {X : List Cm} {i : Nat} (h : i < X.length) : (X.flatMap cellsM).drop (i * 5) = cellsM X[i] ++ (X.drop (i + 1)).flatMap cellsM := by
  rw [drop_flat cellsM_len, List.drop_eq_getElem_cons h, List.flatMap_cons]
theorem ob_take (X : List Cm) (i : Nat) : (X.flatMap cellsM).take (i * 5) = (X.take i).flatMap cellsM := by
  by_cases h : i ≤ X.length
  · have e : X.flatMap cellsM = (X.take i).flatMap cellsM ++ (X.drop i).flatMap cellsM := by rw [← List.flatMap_append, List.take_append_drop]
    have e2 : ((X.take i).flatMap cellsM).length = i * 5 := by rw [ob_len, List.length_take]; congr 1; omega
    rw [e, List.take_append_of_le_length (by omega), List.take_of_length_le (by omega)]
  · rw [List.take_of_length_le (by rw [ob_len]; omega), List.take_of_length_le (by omega)]
theorem ob_set {X : List Cm} {i : Nat} {v : Cm} (h : i < X.length) : (X.flatMap cellsM).take (i * 5) ++ cellsM v ++ (X.flatMap cellsM).drop (i * 5 + 5) = (X.set i v).flatMap cellsM := by
  rw [ob_take, show i * 5 + 5 = (i + 1) * 5 by omega, drop_flat cellsM_len, List.set_eq_take_append_cons_drop, if_pos h, List.flatMap_append, List.flatMap_cons, List.append_assoc]

/-- a commit of zeros -/
def z0 : Cm := ⟨0, 0, .nil, [], 0, .nil, []⟩
theorem rep_z0 : ∀ n : Nat, (List.replicate n [AVal.int .i64 0, .int .i64 0, .nils, .int .i64 0, .nils]).flatten = (List.replicate n z0).flatMap cellsM
  | 0 => rfl
  | n + 1 => by rw [List.replicate_succ, List.replicate_succ, List.flatten_cons, List.flatMap_cons, rep_z0 n]; rfl

theorem slice_from {X : List Cm} {i : Nat} {kd : IntKind} {σ : Sto} (h : σ[1]? = some (ob X)) (hi : i < X.length) : sliceV 5 (.ref 1 (X.length * 5) 0 X.length 5) (some (.int kd (i : Int))) none none σ = some (.ref 1 (X.length * 5) (i * 5) (X.length - i) 5, σ) := by
  have h1 : ¬ i * 5 = X.length * 5 := by omega
  simp only [sliceV, h, ob_len, bnd, natOf_nat, Bool.false_and, Bool.false_eq_true, if_false, Nat.zero_add, h1, show i ≤ X.length by omega, Nat.le_refl, and_self, if_true, show (0 : Nat) < 5 by decide]
theorem slice_to {X : List Cm} {i : Nat} {kd : IntKind} {σ : Sto} (h : σ[1]? = some (ob X)) (hi : i ≤ X.length) (h0 : 0 < X.length) : sliceV 5 (.ref 1 (X.length * 5) 0 X.length 5) none (some (.int kd (i : Int))) none σ = some (.ref 1 (X.length * 5) 0 i 5, σ) := by
  have h1 : ¬ 0 = X.length * 5 := by omega
  simp only [sliceV, h, ob_len, bnd, natOf_nat, Bool.false_and, Bool.false_eq_true, if_false, Nat.zero_add, Nat.zero_mul, Nat.sub_zero, h1, show i * 5 ≤ X.length * 5 by omega, Nat.zero_le, and_self, if_true, show (0 : Nat) < 5 by decide]

theorem st_clearM {Q : Post3} {k : List Item} {os : List AOper} {d : Option Nat} {e : Env} {σ : Sto} {z : List AVal} {x : Opd} {a r : List Nat} : Run T Q (.ops (⟨d, .clear z x, none, a, r⟩ :: os) :: k) e σ ↔ after T Q k os d e (stepOp [] (.clear z x) e σ) := ops_step (by simp) (by simp)
theorem clear_M {X : List Cm} {i : Nat} {e : Env} {x : Opd} {σ : Sto} (h : σ[1]? = some (ob X)) (hi : i ≤ X.length) (hx : ev e x = .ref 1 (X.length * 5) (i * 5) (X.length - i) 5) :
    stepOp [] (.clear [.int .i64 0, .int .i64 0, .nils, .int .i64 0, .nils] x) e σ = some (.tup [], σ.set 1 (ob (X.take i ++ List.replicate (X.length - i) z0))) := by
  have e1 : i * 5 + (X.length - i) * 5 = X.length * 5 := by omega
  simp only [stepOp, hx, h, ob_len, rep_z0, overwrite, ob_take, List.length_replicate, e1, List.drop_of_length_le (show (X.flatMap cellsM).length ≤ X.length * 5 by rw [ob_len]; exact Nat.le_refl _), List.append_nil, lvOk, List.all_nil, List.length_cons, List.length_nil, Nat.le_refl, and_self, if_true, List.flatMap_append, ob]

theorem ob_names {p : Nat → Bool} {X : List Cm} : AVal.namesL p (X.flatMap cellsM) = true := v_names_flat (fun x => by simp only [cellsM, AVal.namesL, AVal.names, sv_pure, Bool.and_self]) X
theorem ob_namesT {p : Nat → Bool} {X : List Cm} {i : Nat} : AVal.namesL p ((X.flatMap cellsM).take (i * 5)) = true := by rw [ob_take]; exact ob_names
theorem ob_namesD {p : Nat → Bool} {X : List Cm} {i : Nat} : AVal.namesL p ((X.flatMap cellsM).drop (i * 5 + 5)) = true := by rw [show i * 5 + 5 = (i + 1) * 5 by omega, drop_flat cellsM_len]; exact ob_names

theorem DeleteFunc_loop {c : Cm} {l : List Cm} {n : Nat} (hn : l.length = n) (h0 : n ≤ 1000000) {R : Post} : ∀ j : Nat, j ≤ n → ∀ (i : Nat) (X : List Cm), i < j → X.length = n → X.drop j = l.drop j →
    (Run T (Ret [.tmp 4] R) (.inLoop slices_DeleteFunc_Commit.b0 :: slices_DeleteFunc_Commit.k0) (mkE 42 [(0, .ref 1 (n * 5) 0 n 5), (1, .clo (.func i_escrow_Covered_1) [] [.ptr 0 5 0]), (5, .int .i64 i), (6, .int .i64 j)]) [.cells false (cellsM c), ob X] ↔
     R (.ref 1 (n * 5) 0 (X.take i ++ (l.drop j).filter (sees2 c)).length 5) [.cells false (cellsM c), ob ((X.take i ++ (l.drop j).filter (sees2 c)) ++ List.replicate (n - (X.take i ++ (l.drop j).filter (sees2 c)).length) z0)]) := by
  refine up_ind ?_ fun j hj ih => ?_
  · intro i X hij hX hd
    have hi : i < n := hij
    subst hX
    rw [show (l.drop X.length) = [] from List.drop_of_length_le (by omega), List.filter_nil, List.append_nil]
    have e1 : (X.take i).length = i := by rw [List.length_take]; omega
    rw [run_round, run_unfold slices_DeleteFunc_Commit.b0.eq_1]
    simp (maxSteps := 2000000) only [go_sem, Nat.lt_irrefl, run_unfold slices_DeleteFunc_Commit.c0.eq_1, run_unfold slices_DeleteFunc_Commit.c1.eq_1, slices_DeleteFunc_Commit.k0, ob_len, slice_from (X := X) (i := i) (kd := .i64) (σ := [.cells false (cellsM c), ob X]) rfl hi]
    rw [st_clearM, clear_M (X := X) (i := i) rfl (by omega) rfl]
    have hl2 : (X.take i ++ List.replicate (X.length - i) z0).length = X.length := by rw [List.length_append, e1, List.length_replicate]; omega
    have hst := slice_to (X := X.take i ++ List.replicate (X.length - i) z0) (i := i) (kd := .i64) (σ := [.cells false (cellsM c), ob (X.take i ++ List.replicate (X.length - i) z0)]) rfl (by omega) (by omega)
    rw [hl2] at hst
    simp (maxSteps := 2000000) only [go_sem, hst, e1]
  · intro i X hij hX hd
    have hi : i < n := by omega
    have hjX : j < X.length := by omega
    have hjl : j < l.length := by omega
    have hXj : X[j] = l[j] := by
      rw [List.drop_eq_getElem_cons hjX, List.drop_eq_getElem_cons hjl] at hd
      exact (List.cons.inj hd).1
    have hw := wrap_succ (n := j) (by omega)
    have hwi := wrap_succ (n := i) (by omega)
    have hdr := ob_drop hjX
    have hln := ob_len X
    rw [List.drop_eq_getElem_cons hjl, List.filter_cons]
    rw [run_round, run_unfold slices_DeleteFunc_Commit.b0.eq_1]
    simp (maxSteps := 2000000) only [go_sem, hln, hX, hj, hdr, hXj]
    rw [covered1_live rfl]
    cases hs : sees2 c l[j]
    · have := ih i X (by omega) hX (by
        have := congrArg List.tail hd
        simpa using this)
      simp (maxSteps := 2000000) only [go_sem, hs, run_unfold slices_DeleteFunc_Commit.c1.eq_1, hw, Bool.false_eq_true, ob_names, AVal.unders]
      exact this
    · have hset := ob_set (X := X) (i := i) (v := l[j]) (by omega)
      have := ih (i + 1) (X.set i l[j]) (by omega) (by simpa using hX) (by
        rw [List.drop_set_of_lt (by omega)]
        have := congrArg List.tail hd
        simpa using this)
      rw [take_set_succ (by omega), List.append_assoc, List.singleton_append] at this
      simp (maxSteps := 2000000) only [go_sem, hs, hln, hX, hi, run_unfold slices_DeleteFunc_Commit.c1.eq_1, hw, hwi, show i * 5 + 5 ≤ n * 5 by omega, ob_namesT, ob_namesD, hset, ob_names, AVal.unders]
      exact this

/-- what is left of a list, in memory -/
theorem slices_DeleteFunc_M {c : Cm} {l : List Cm} (h0 : l.length ≤ 1000000) {R : Post} :
    Cw T false i_slices_DeleteFunc_Commit [.ref 1 (l.length * 5) 0 l.length 5, .clo (.func i_escrow_Covered_1) [] [.ptr 0 5 0]] [] [.cells false (cellsM c), ob l] R ↔
     R (.ref 1 (l.length * 5) 0 (l.filter (sees2 c)).length 5) [.cells false (cellsM c), ob (l.filter (sees2 c) ++ List.replicate (l.length - (l.filter (sees2 c)).length) z0)] := by
  rw [cw_enter T_slices_DeleteFunc_Commit (by simp), run_unfold slices_DeleteFunc_Commit.main.eq_1]
  simp (maxSteps := 2000000) only [go_sem]
  rw [index_live h0 rfl rfl]
  cases h : l.findIdx? (fun x => !sees2 c x) with
  | none =>
    have hi : idxOf (fun x => !sees2 c x) l = -1 := by unfold idxOf; rw [h]
    have hall : ∀ x ∈ l, sees2 c x = true := by
      rw [List.findIdx?_eq_none_iff] at h
      intro x hx
      have := h x hx
      simpa using this
    have hf : l.filter (sees2 c) = l := List.filter_eq_self.2 hall
    rw [hi, hf]
    simp (maxSteps := 2000000) only [go_sem, Nat.sub_self, List.replicate_zero, List.append_nil]
  | some j =>
    have hi : idxOf (fun x => !sees2 c x) l = (j : Int) := by unfold idxOf; rw [h]
    obtain ⟨hj, hpj, hbef⟩ := List.findIdx?_eq_some_iff_getElem.1 h
    have hw := wrap_succ (n := j) (by omega)
    rw [hi]
    have hneg : ¬ ((j : Int) = -1) := by omega
    have hf : l.filter (sees2 c) = l.take j ++ (l.drop (j + 1)).filter (sees2 c) := by
      conv => lhs; rw [← List.take_append_drop j l, List.filter_append, List.drop_eq_getElem_cons hj, List.filter_cons]
      have h1 : sees2 c l[j] = false := by simpa using hpj
      have h2 : (l.take j).filter (sees2 c) = l.take j := List.filter_eq_self.2 fun x hx => by
        obtain ⟨i, hi, rfl⟩ := List.mem_iff_getElem.1 hx
        rw [List.getElem_take]
        have := hbef i (by rw [List.length_take] at hi; omega)
        simpa using this
      rw [h2, h1]
      rfl
    simp (maxSteps := 2000000) only [go_sem, hneg, hw]
    rw [hf]
    exact DeleteFunc_loop (c := c) (l := l) rfl h0 (j + 1) (by omega) j l (by omega) rfl rfl
end Go.Abs
/- Chapter 23: insertion sort of commits, and what is covered. -/
set_option linter.unusedSimpArgs false
set_option linter.unusedVariables false
set_option maxRecDepth 100000
set_option maxHeartbeats 4000000
namespace Go.Abs
open Go
attribute [local go_sem_proc] Nat.reduceLT Nat.reduceEqDiff Nat.reduceLeDiff Nat.reduceAdd Nat.reduceSub Nat.reduceMul Int.reduceLT Int.reduceLE Int.reduceEq Int.reduceNeg
attribute [local go_sem_proc ↓] reduceIte

def cmp2 (a b : Cm) : Int := if bef2 a b then -1 else if bef2 b a then 1 else 0
theorem escrow_Covered_2_spec {a b : Cm} {lv : List Nat} {σ : Sto} {R : Post} : Cw T true i_escrow_Covered_2 [encM a, encM b] lv σ R ↔ R (.int .i64 (cmp2 a b)) σ := by
  refine cw_intro T_escrow_Covered_2 (by simp only [go_sem]) (by simp) ?_; rw [run_unfold escrow_Covered_2.main.eq_1]
  unfold cmp2
  cases h1 : bef2 a b
  · cases h2 : bef2 b a
    · simp (maxSteps := 2000000) only [go_sem, h1, h2, ]
    · simp (maxSteps := 2000000) only [go_sem, h1, h2, ]
  · simp (maxSteps := 2000000) only [go_sem, h1, ]
@[go_sem] theorem escrow_Covered_2_call {a b : Cm} {Q : Post3} {k : List Item} {os : List AOper} {d : Option Nat} {e : Env} {σ : Sto} : CallK T Q k os d e σ true i_escrow_Covered_2 [encM a, encM b] ↔ Run T Q (.ops os :: k) (put e d (.int .i64 (cmp2 a b))) σ := escrow_Covered_2_spec


theorem insC_b1 {B : AObj} {n m i : Nat} {Q : Post3} (hmn : m ≤ n) (hn : n ≤ 1000000) {x : Cm}
    {F : List Cm} (next : Run T Q (.inLoop slices_insertionSortCmpFunc_Commit.b0 :: slices_insertionSortCmpFunc_Commit.k0) (mkE 53 [(0, .ref 1 (n * 5) 0 m 5), (1, .int .i64 0), (2, .int .i64 m), (3, .clo (.func i_escrow_Covered_2) [] []), (8, .int .i64 ((i + 1 : Nat) : Int))]) [B, ob F]) (hi : i < m) :
    ∀ (Pr S : List Cm), Pr.length ≤ i → Pr.length + 1 + S.length = n → F = (insR bef2 x Pr).reverse ++ S →
    Run T Q (.inLoop slices_insertionSortCmpFunc_Commit.b1 :: slices_insertionSortCmpFunc_Commit.k1) (mkE 53 [(0, .ref 1 (n * 5) 0 m 5), (1, .int .i64 0), (2, .int .i64 m), (3, .clo (.func i_escrow_Covered_2) [] []), (8, .int .i64 i), (9, .int .i64 Pr.length)]) [B, ob (Pr.reverse ++ x :: S)]
  | [], S, _, hl, hF => by
    rw [run_round, run_unfold slices_insertionSortCmpFunc_Commit.b1.eq_1]
    subst hF
    simp (maxSteps := 2000000) only [go_sem, run_unfold slices_insertionSortCmpFunc_Commit.c0.eq_1, run_unfold slices_insertionSortCmpFunc_Commit.c1.eq_1, slices_insertionSortCmpFunc_Commit.k0, slices_insertionSortCmpFunc_Commit.k1, wrap_succ (show i < 9223372036854775807 by omega), List.length_nil, Int.natCast_zero, Int.ofNat_zero]
    exact next
  | y :: Pr, S, hpi, hl, hF => by
    rw [run_round, run_unfold slices_insertionSortCmpFunc_Commit.b1.eq_1]
    simp only [List.length_cons] at hl hpi
    obtain ⟨D, hD⟩ : ∃ D, D = (y :: Pr).reverse ++ x :: S := ⟨_, rfl⟩
    have hDl : D.length = n := by rw [hD]; simp; omega
    have e0 : D = Pr.reverse ++ y :: x :: S := by rw [hD]; simp
    have h1 : Pr.length + 1 < D.length := by omega
    have h2 : Pr.length < D.length := by omega
    have g1 : D[Pr.length + 1] = x := by
      have : D[Pr.length + 1]? = some x := by rw [e0, List.getElem?_append_right (by simp)]; simp
      rw [List.getElem?_eq_getElem h1] at this; exact Option.some.inj this
    have g2 : D[Pr.length] = y := by
      have : D[Pr.length]? = some y := by rw [e0, List.getElem?_append_right (by simp)]; simp
      rw [List.getElem?_eq_getElem h2] at this; exact Option.some.inj this
    have hw : IntKind.i64.wrap (((Pr.length + 1 : Nat) : Int) - 1) = ((Pr.length : Nat) : Int) := by rw [wrap_i64 (by omega) (by omega)]; omega
    have hpos : (0 : Int) < ((Pr.length + 1 : Nat) : Int) := by omega
    have d1 := ob_drop h1
    have d2 := ob_drop h2
    rw [g1] at d1
    rw [g2] at d2
    have hln := ob_len D
    rw [hDl] at hln
    have b1 : Pr.length + 1 < m := by omega
    have b2 : Pr.length < m := by omega
    rw [← hD]
    cases hr : bef2 x y
    · have hcn : ¬ cmp2 x y < 0 := by unfold cmp2; rw [hr]; split <;> simp_all; split <;> decide
      simp (maxSteps := 2000000) only [go_sem, List.length_cons, hpos, hln, b1, b2, d1, d2, hw, hcn, run_unfold slices_insertionSortCmpFunc_Commit.c0.eq_1, run_unfold slices_insertionSortCmpFunc_Commit.c1.eq_1, slices_insertionSortCmpFunc_Commit.k0, slices_insertionSortCmpFunc_Commit.k1, wrap_succ (show i < 9223372036854775807 by omega), List.nil_append, List.append_nil]
      have : F = D := by rw [hF, insR, if_neg (by rw [hr]; decide), hD]; simp
      rw [this] at next
      exact next
    · have hcn : cmp2 x y < 0 := by unfold cmp2; rw [hr, if_pos rfl]; decide
      have hs1 := ob_set (X := D) (i := Pr.length + 1) (v := y) h1
      have hl2 : (D.set (Pr.length + 1) y).length = n := by rw [List.length_set]; exact hDl
      have hs2 := ob_set (X := D.set (Pr.length + 1) y) (i := Pr.length) (v := x) (by omega)
      have hln2 := ob_len (D.set (Pr.length + 1) y)
      rw [hl2] at hln2
      simp (maxSteps := 2000000) only [go_sem, List.length_cons, hpos, hln, hln2, b1, b2, d1, d2, hw, hcn, hs1, hs2, show (Pr.length + 1) * 5 + 5 ≤ n * 5 by omega, show Pr.length * 5 + 5 ≤ n * 5 by omega, List.nil_append, List.append_nil]
      have e1 : (D.set (Pr.length + 1) y).set Pr.length x = Pr.reverse ++ x :: y :: S := by
        rw [e0, show Pr.reverse ++ y :: x :: S = (Pr.reverse ++ [y]) ++ x :: S by simp, List.set_append_right _ _ (by simp), show Pr.length + 1 - (Pr.reverse ++ [y]).length = 0 by simp, List.set_cons_zero,
          List.append_assoc, List.set_append_right _ _ (by simp), show Pr.length - Pr.reverse.length = 0 by simp]
        simp
      rw [e1]
      refine insC_b1 hmn hn next hi Pr (y :: S) (by omega) (by simp; omega) ?_
      rw [hF, insR, if_pos hr]
      simp

theorem insC_b0 {B : AObj} {n m : Nat} {R : Post} (hmn : m ≤ n) (hn : n ≤ 1000000) {F Z : List Cm}
    (next : R (.tup []) [B, ob (F ++ Z)]) : ∀ (S : List Cm) (A : List Cm), A.length + S.length = m → A.length + S.length + Z.length = n → F = (isortR bef2 A S).reverse →
    Run T (Ret [] R) (.inLoop slices_insertionSortCmpFunc_Commit.b0 :: slices_insertionSortCmpFunc_Commit.k0) (mkE 53 [(0, .ref 1 (n * 5) 0 m 5), (1, .int .i64 0), (2, .int .i64 m), (3, .clo (.func i_escrow_Covered_2) [] []), (8, .int .i64 A.length)]) [B, ob (A.reverse ++ (S ++ Z))]
  | [], A, hl, _, hF => by
    rw [run_round, run_unfold slices_insertionSortCmpFunc_Commit.b0.eq_1]
    simp only [List.length_nil, Nat.add_zero] at hl
    simp (maxSteps := 2000000) only [go_sem, hl, Nat.lt_irrefl, run_unfold slices_insertionSortCmpFunc_Commit.c0.eq_1, run_unfold slices_insertionSortCmpFunc_Commit.c1.eq_1, slices_insertionSortCmpFunc_Commit.k0, slices_insertionSortCmpFunc_Commit.k1, List.nil_append]
    rw [hF, isortR] at next
    exact next
  | x :: S, A, hl, hz, hF => by
    rw [run_round, run_unfold slices_insertionSortCmpFunc_Commit.b0.eq_1]
    simp only [List.length_cons] at hl hz
    have hlt : A.length < m := by omega
    simp (maxSteps := 2000000) only [go_sem, hlt, List.cons_append]
    refine insC_b1 hmn hn ?_ hlt A (S ++ Z) (Nat.le_refl _) (by simp; omega) rfl
    have := insC_b0 (B := B) hmn hn next S (insR bef2 x A) (by rw [insR_len]; omega) (by rw [insR_len]; omega) (by rw [hF, isortR])
    rw [insR_len] at this
    exact this

/-- insertion sort of a list of commits, with others behind them -/
theorem insertionSort_M {B : AObj} {D Z : List Cm} {n m : Nat} {R : Post} (hm : D.length = m) (hn : m + Z.length = n) (h1 : n ≤ 1000000) (next : R (.tup []) [B, ob (isort bef2 D ++ Z)]) :
    Cw T false i_slices_insertionSortCmpFunc_Commit [.ref 1 (n * 5) 0 m 5, .int .i64 0, .int .i64 m, .clo (.func i_escrow_Covered_2) [] []] [] [B, ob (D ++ Z)] R := by
  rw [cw_enter T_slices_insertionSortCmpFunc_Commit (by simp), run_unfold slices_insertionSortCmpFunc_Commit.main.eq_1]
  simp (maxSteps := 2000000) only [go_sem]
  cases D with
  | nil =>
    rw [run_round, run_unfold slices_insertionSortCmpFunc_Commit.b0.eq_1]
    simp only [List.length_nil] at hm
    subst hm
    simp (maxSteps := 2000000) only [go_sem, run_unfold slices_insertionSortCmpFunc_Commit.c0.eq_1, run_unfold slices_insertionSortCmpFunc_Commit.c1.eq_1, slices_insertionSortCmpFunc_Commit.k0, slices_insertionSortCmpFunc_Commit.k1, List.length_nil]
    exact next
  | cons x S =>
    simp only [List.length_cons] at hm
    have := insC_b0 (B := B) (n := n) (m := m) (A := [x]) (by omega) h1 next S (by simp; omega) (by simp; omega) rfl
    exact this
theorem insertionSort_iff {B : AObj} {D Z : List Cm} {n m : Nat} {R : Post} (hm : D.length = m) (hn : m + Z.length = n) (h1 : n ≤ 1000000) :
    Cw T false i_slices_insertionSortCmpFunc_Commit [.ref 1 (n * 5) 0 m 5, .int .i64 0, .int .i64 m, .clo (.func i_escrow_Covered_2) [] []] [] [B, ob (D ++ Z)] R ↔ R (.tup []) [B, ob (isort bef2 D ++ Z)] :=
  Cw.iff_of fun R h => insertionSort_M hm hn h1 h

theorem stable_M {B : AObj} {D Z : List Cm} {n m : Nat} {R : Post} (hm : D.length = m) (hn : m + Z.length = n) (h1 : n ≤ 19) :
    Cw T false i_slices_stableCmpFunc_Commit [.ref 1 (n * 5) 0 m 5, .int .i64 m, .clo (.func i_escrow_Covered_2) [] []] [] [B, ob (D ++ Z)] R ↔ R (.tup []) [B, ob (isort bef2 D ++ Z)] := by
  have hq := fun (Q : Post3) (k : List Item) (os : List AOper) (d : Option Nat) (e : Env) => callK_shared (T := T) (Q := Q) (k := k) (os := os) (d := d) (e := e) (fun {R} => insertionSort_iff (B := B) (D := D) (Z := Z) (n := n) (m := m) (R := R) hm hn (by omega))
  rw [cw_enter T_slices_stableCmpFunc_Commit (by simp), run_unfold slices_stableCmpFunc_Commit.main.eq_1]
  simp (maxSteps := 2000000) only [go_sem]
  rw [run_round, run_unfold slices_stableCmpFunc_Commit.b0.eq_1]
  simp (maxSteps := 2000000) only [go_sem, show ¬ ((20 : Int) ≤ (m : Int)) by omega, run_unfold slices_stableCmpFunc_Commit.c0.eq_1, run_unfold slices_stableCmpFunc_Commit.c1.eq_1, run_unfold slices_stableCmpFunc_Commit.c2.eq_1, run_unfold slices_stableCmpFunc_Commit.c3.eq_1, slices_stableCmpFunc_Commit.k0, slices_stableCmpFunc_Commit.k1, slices_stableCmpFunc_Commit.k2, hq]
  rw [run_round, run_unfold slices_stableCmpFunc_Commit.b1.eq_1]
  simp (maxSteps := 2000000) only [go_sem, show ¬ ((20 : Int) < (m : Int)) by omega, run_unfold slices_stableCmpFunc_Commit.c0.eq_1, run_unfold slices_stableCmpFunc_Commit.c1.eq_1, run_unfold slices_stableCmpFunc_Commit.c2.eq_1, run_unfold slices_stableCmpFunc_Commit.c3.eq_1, slices_stableCmpFunc_Commit.k0, slices_stableCmpFunc_Commit.k1, slices_stableCmpFunc_Commit.k2]

theorem sortStable_M {B : AObj} {D Z : List Cm} {n m : Nat} {R : Post} (hm : D.length = m) (hn : m + Z.length = n) (h1 : n ≤ 19) :
    Cw T false i_slices_SortStableFunc_Commit [.ref 1 (n * 5) 0 m 5, .clo (.func i_escrow_Covered_2) [] []] [] [B, ob (D ++ Z)] R ↔ R (.tup []) [B, ob (isort bef2 D ++ Z)] := by
  have hq := fun (Q : Post3) (k : List Item) (os : List AOper) (d : Option Nat) (e : Env) => callK_shared (T := T) (Q := Q) (k := k) (os := os) (d := d) (e := e) (fun {R} => stable_M (B := B) (D := D) (Z := Z) (n := n) (m := m) (R := R) hm hn h1)
  have hln : ((D ++ Z).flatMap cellsM).length = n * 5 := by rw [ob_len, List.length_append]; congr 1; omega
  rw [cw_enter T_slices_SortStableFunc_Commit (by simp), run_unfold slices_SortStableFunc_Commit.main.eq_1]
  simp (maxSteps := 2000000) only [go_sem, hln, hq]

theorem clone_M {f : SlF} {l : List Cm} {σ : Sto} {R : Post} (h : eqnilV false .sl (cms f l) σ = some (.bool false, σ)) (hl : l.length ≤ 1000) :
    Cw T false i_slices_Clone_Commit [cms f l] [] σ R ↔ R (.ref σ.length (l.length * 5) 0 l.length 5) (σ ++ [ob l]) := by
  rw [cw_enter T_slices_Clone_Commit (by simp), run_unfold slices_Clone_Commit.main.eq_1]
  simp (maxSteps := 2000000) only [go_sem, h]
  have ha := appendV_structs (σ := σ ++ [.cells false []]) (o := σ.length) (k := 5) (bytes := 72) (f := f) (g := cellsM) (X := []) (Y := l) (by decide) (fun _ => rfl) cellsM_one get_last (by simp [maxBytes]; omega)
  simp only [List.length_nil, Nat.zero_mul, List.nil_append, set_last] at ha
  rw [show appendV 5 72 (.ref σ.length 0 0 0 5) (cms f l) (σ ++ [.cells false []]) = some (.ref σ.length (l.length * 5) 0 l.length 5, σ ++ [ob l]) from ha]
  simp (maxSteps := 2000000) only [go_sem]

theorem deep_pre {σ : Sto} {D Z : List Cm} {m n : Nat} (hm : D.length = m) (hn : m + Z.length = n) (hσ : σ[1]? = some (ob (D ++ Z))) : deepA 64 σ (.ref 1 (n * 5) 0 m 5) = some (cms .lst D, σ.set 1 .dead) := by
  have h0 : (AVal.ref 1 (n * 5) 0 m 5).pure = false := by simp [AVal.names]
  have hln : ((D ++ Z).flatMap cellsM).length = n * 5 := by rw [ob_len, List.length_append]; congr 1; omega
  have hp : AVal.pures ((D ++ Z).flatMap cellsM) = true := ob_names
  have ht : ((D ++ Z).flatMap cellsM).take (m * 5) = D.flatMap cellsM := by rw [ob_take, List.take_append_of_le_length (by omega), List.take_of_length_le (by omega)]
  have hc : chunk 5 m (D.flatMap cellsM) = D.map encM := by rw [← hm]; exact chunk_flatMap (k := 5) (g := cellsM) (by decide) cellsM_len D
  unfold deepA
  simp only [h0, Bool.false_eq_true, if_false, hσ, hln, show 0 + m * 5 ≤ n * 5 by omega, and_self, if_true, deepL_pure hp, Bool.false_and, List.drop_zero, ht, hc, show (0 : Nat) < 5 by decide, cms, sv_lst]

theorem index_nil {c : Cm} {σ : Sto} (h0 : σ[0]? = some (.cells false (cellsM c))) {Q : Post3} {k : List Item} {os : List AOper} {d : Option Nat} {e : Env} :
    CallK T Q k os d e σ true i_slices_IndexFunc_Commit [.nils, .clo (.func i_escrow_Covered_1) [] [.ptr 0 5 0]] ↔ Run T Q (.ops os :: k) (put e d (.int .i64 (-1))) σ := by
  refine callK_live T_slices_IndexFunc_Commit (as := [.nils, .clo (.func i_escrow_Covered_1) [] [.fptr (cellsM c)]]) (slices_IndexFunc_M (f := .nil) (l := []) (c := c) (by simp)) ?_ (by simp [AVal.pures, AVal.namesL, AVal.names]) rfl
  have s2 := snap_cloM (n := 61) (f := .func i_escrow_Covered_1) h0
  have s1 : snapA σ 64 .nils = some .nils := snapA_step rfl
  rw [show snapDepth = 64 from rfl]
  simp only [List.mapM_cons, List.mapM_nil, s1, s2, Option.pure_def, Option.bind_eq_bind, Option.bind_some]
theorem delete_nil {c : Cm} {R : Post} : Cw T false i_slices_DeleteFunc_Commit [.nils, .clo (.func i_escrow_Covered_1) [] [.ptr 0 5 0]] [] [.cells false (cellsM c)] R ↔ R .nils [.cells false (cellsM c)] := by
  rw [cw_enter T_slices_DeleteFunc_Commit (by simp), run_unfold slices_DeleteFunc_Commit.main.eq_1]
  simp (maxSteps := 2000000) only [go_sem]
  rw [index_nil rfl]
  simp (maxSteps := 2000000) only [go_sem]
theorem sort_nil {σ : Sto} {R : Post} : Cw T false i_slices_SortStableFunc_Commit [.nils, .clo (.func i_escrow_Covered_2) [] []] [] σ R ↔ R (.tup []) σ := by
  have h1 : ∀ {R : Post}, Cw T false i_slices_insertionSortCmpFunc_Commit [.nils, .int .i64 0, .int .i64 0, .clo (.func i_escrow_Covered_2) [] []] [] σ R ↔ R (.tup []) σ := by
    intro R
    rw [cw_enter T_slices_insertionSortCmpFunc_Commit (by simp), run_unfold slices_insertionSortCmpFunc_Commit.main.eq_1]
    simp (maxSteps := 2000000) only [go_sem]
    rw [run_round, run_unfold slices_insertionSortCmpFunc_Commit.b0.eq_1]
    simp (maxSteps := 2000000) only [go_sem, run_unfold slices_insertionSortCmpFunc_Commit.c0.eq_1, run_unfold slices_insertionSortCmpFunc_Commit.c1.eq_1, slices_insertionSortCmpFunc_Commit.k0, slices_insertionSortCmpFunc_Commit.k1, w01]
  have h2 : ∀ {R : Post}, Cw T false i_slices_stableCmpFunc_Commit [.nils, .int .i64 0, .clo (.func i_escrow_Covered_2) [] []] [] σ R ↔ R (.tup []) σ := by
    intro R
    rw [cw_enter T_slices_stableCmpFunc_Commit (by simp), run_unfold slices_stableCmpFunc_Commit.main.eq_1]
    simp (maxSteps := 2000000) only [go_sem]
    rw [run_round, run_unfold slices_stableCmpFunc_Commit.b0.eq_1]
    simp (maxSteps := 2000000) only [go_sem, run_unfold slices_stableCmpFunc_Commit.c0.eq_1, run_unfold slices_stableCmpFunc_Commit.c1.eq_1, run_unfold slices_stableCmpFunc_Commit.c2.eq_1, run_unfold slices_stableCmpFunc_Commit.c3.eq_1, slices_stableCmpFunc_Commit.k0, slices_stableCmpFunc_Commit.k1, slices_stableCmpFunc_Commit.k2, callK_shared h1]
    rw [run_round, run_unfold slices_stableCmpFunc_Commit.b1.eq_1]
    simp (maxSteps := 2000000) only [go_sem, run_unfold slices_stableCmpFunc_Commit.c0.eq_1, run_unfold slices_stableCmpFunc_Commit.c1.eq_1, run_unfold slices_stableCmpFunc_Commit.c2.eq_1, run_unfold slices_stableCmpFunc_Commit.c3.eq_1, slices_stableCmpFunc_Commit.k0, slices_stableCmpFunc_Commit.k1, slices_stableCmpFunc_Commit.k2]
  rw [cw_enter T_slices_SortStableFunc_Commit (by simp), run_unfold slices_SortStableFunc_Commit.main.eq_1]
  simp (maxSteps := 2000000) only [go_sem, callK_shared h2]
theorem clone_nil {σ : Sto} {R : Post} : Cw T false i_slices_Clone_Commit [.nils] [] σ R ↔ R .nils σ := by
  rw [cw_enter T_slices_Clone_Commit (by simp), run_unfold slices_Clone_Commit.main.eq_1]
  simp (maxSteps := 2000000) only [go_sem, show eqnilV false .sl .nils σ = some (.bool true, σ) from rfl]

theorem deep_nils {σ : Sto} : deepA 64 σ .nils = some (.nils, σ) := rfl

theorem escrow_Covered_nil {g : SlF} {s : List Int} {c : Cm} (hcc : Fits c.ops) {lv : List Nat} {σ : Sto} {R : Post} : Cw T true i_escrow_Covered [ints g s, .nils, encM c] lv σ R ↔ R (.bool (covP s [] c)) σ := by
  refine cw_intro T_escrow_Covered (by simp only [go_sem]) (by simp) ?_; rw [run_unfold escrow_Covered.main.eq_1]
  have pl := fun (Q : Post3) (k : List Item) (os : List AOper) (d : Option Nat) (e : Env) (σ : Sto) => escrow_Play_call (f := .nil) (g := g) (s := s) (l := []) (by simp) (by simp) (Q := Q) (k := k) (os := os) (d := d) (e := e) (σ := σ)
  simp only [cms, List.map_nil, sv_nil] at pl
  have hs : seenP [] c = [] := rfl
  unfold covP
  rw [hs]
  cases hp : doP (playL (stP s) []).1 c with
  | none => simp (maxSteps := 2000000) only [go_sem, callK_shared clone_nil, callK_shared delete_nil, callK_shared sort_nil, deep_nils, pl, hcc, hp, gotA, Option.isSome_none]
  | some y => simp (maxSteps := 2000000) only [go_sem, callK_shared clone_nil, callK_shared delete_nil, callK_shared sort_nil, deep_nils, pl, hcc, hp, gotA, Option.isSome_some]

theorem escrow_Covered_gen {f g : SlF} {s : List Int} {l : List Cm} {c : Cm} (hne : ∀ σ : Sto, eqnilV false .sl (cms f l) σ = some (.bool false, σ)) (hl : l.length ≤ 19) (hc : ∀ c ∈ l, Fits c.ops) (hcc : Fits c.ops) {lv : List Nat} {σ : Sto} {R : Post} : Cw T true i_escrow_Covered [ints g s, cms f l, encM c] lv σ R ↔ R (.bool (covP s l c)) σ := by
  refine cw_intro T_escrow_Covered (by simp only [go_sem]) (by simp) ?_; rw [run_unfold escrow_Covered.main.eq_1]
  have hK : (l.filter (sees2 c)).length ≤ l.length := List.length_filter_le ..
  have e1 : (l.filter (sees2 c)).length + (List.replicate (l.length - (l.filter (sees2 c)).length) z0).length = l.length := by rw [List.length_replicate]; omega
  have hcl := fun (Q : Post3) (k : List Item) (os : List AOper) (d : Option Nat) (e : Env) => callK_shared (T := T) (Q := Q) (k := k) (os := os) (d := d) (e := e) (fun {R} => clone_M (f := f) (l := l) (σ := [.cells false (cellsM c)]) (R := R) (hne _) (by omega))
  have hdl := fun (Q : Post3) (k : List Item) (os : List AOper) (d : Option Nat) (e : Env) => callK_shared (T := T) (Q := Q) (k := k) (os := os) (d := d) (e := e) (fun {R} => slices_DeleteFunc_M (c := c) (l := l) (R := R) (by omega))
  have hso := fun (Q : Post3) (k : List Item) (os : List AOper) (d : Option Nat) (e : Env) => callK_shared (T := T) (Q := Q) (k := k) (os := os) (d := d) (e := e) (fun {R} => sortStable_M (B := .cells false (cellsM c)) (D := l.filter (sees2 c)) (Z := List.replicate (l.length - (l.filter (sees2 c)).length) z0) (n := l.length) (m := (l.filter (sees2 c)).length) (R := R) rfl e1 hl)
  have hfz := fun (σ : Sto) (h : σ[1]? = some (ob (isort bef2 (l.filter (sees2 c)) ++ List.replicate (l.length - (l.filter (sees2 c)).length) z0))) => deep_pre (m := (l.filter (sees2 c)).length) (n := l.length) (by rw [isort_len]) e1 h
  have h1 : (seenP l c).length ≤ 1000000 := Nat.le_trans seenP_len (by omega)
  have h2 : ∀ x ∈ seenP l c, Fits x.ops := fun x hx => hc x (seenP_mem hx)
  have pl := fun (Q : Post3) (k : List Item) (os : List AOper) (d : Option Nat) (e : Env) (σ : Sto) => escrow_Play_call (f := .lst) (g := g) (s := s) (l := seenP l c) h1 h2 (Q := Q) (k := k) (os := os) (d := d) (e := e) (σ := σ)
  unfold covP
  unfold seenP at pl ⊢
  simp (maxSteps := 2000000) only [go_sem, hcl, hdl, hso]
  refine afterG_of (hfz _ rfl) ?_
  cases hp : doP (playL (stP s) (isort bef2 (l.filter (sees2 c)))).1 c with
  | none => simp (maxSteps := 2000000) only [go_sem, pl, hcc, hp, gotA, Option.isSome_none]
  | some y => simp (maxSteps := 2000000) only [go_sem, pl, hcc, hp, gotA, Option.isSome_some]

theorem escrow_Covered_spec {f g : SlF} {s : List Int} {l : List Cm} {c : Cm} (hl : l.length ≤ 19) (hc : ∀ c ∈ l, Fits c.ops) (hcc : Fits c.ops) {lv : List Nat} {σ : Sto} {R : Post} : Cw T true i_escrow_Covered [ints g s, cms f l, encM c] lv σ R ↔ R (.bool (covP s l c)) σ := by
  cases l with
  | nil =>
    cases f with
    | nil => exact escrow_Covered_nil hcc
    | emp => exact escrow_Covered_gen (fun _ => rfl) hl hc hcc
    | lst => exact escrow_Covered_gen (fun _ => rfl) hl hc hcc
  | cons a l => exact escrow_Covered_gen (fun _ => eqnilV_sv (by simp)) hl hc hcc
@[go_sem] theorem escrow_Covered_call {f g : SlF} {s : List Int} {l : List Cm} {c : Cm} (hl : l.length ≤ 19) (hc : ∀ c ∈ l, Fits c.ops) (hcc : Fits c.ops) {Q : Post3} {k : List Item} {os : List AOper} {d : Option Nat} {e : Env} {σ : Sto} : CallK T Q k os d e σ true i_escrow_Covered [ints g s, cms f l, encM c] ↔ Run T Q (.ops os :: k) (put e d (.bool (covP s l c))) σ := escrow_Covered_spec hl hc hcc

end Go.Abs
/- Chapter 23: commits with operations of bytes. -/
set_option linter.unusedSimpArgs false
set_option linter.unusedVariables false
set_option maxRecDepth 10000
set_option maxHeartbeats 4000000
namespace Go.Abs
open Go
attribute [local go_sem_proc] Nat.reduceLT Nat.reduceEqDiff Nat.reduceLeDiff Nat.reduceAdd Nat.reduceSub Nat.reduceMul Int.reduceLT Int.reduceLE Int.reduceEq Int.reduceNeg
attribute [local go_sem_proc ↓] reduceIte

def opW (st : Int) (t : Tri) : Opr := if t.a % 2 = 1 ∧ ((t.c % 4 : Nat) : Int) = st then ⟨6, 0, 0, (((t.c % 4 + 1) % 3 : Nat) : Int), .nils, .nils, 2, ((1 + t.b % 5 : Nat) : Int), ⟨#[]⟩, rfl, rfl, rfl, rfl⟩ else opB t
def stepW (c : Cm) (t : Tri) : Cm := if t.c % 5 = 0 then c else ⟨c.st, c.seq, c.pf, c.past, c.ver, .lst, c.ops ++ [opW c.st t]⟩

theorem rem5 (x : Nat) : Int.tmod (x : Int) 5 = ((x % 5 : Nat) : Int) := rfl

@[go_sem] theorem iaddrAF_0 {c m : Nat} {cs : List AVal} {kd : IntKind} {σ : Sto} (h : 0 < c) : iaddrAV c m (.fptr cs) (.int kd 0) σ = some (.fptr (cs.drop (0 * m)), σ) := by simp [iaddrAV, natOf, h]
@[go_sem] theorem iaddrAF_1 {c m : Nat} {cs : List AVal} {kd : IntKind} {σ : Sto} (h : 1 < c) : iaddrAV c m (.fptr cs) (.int kd 1) σ = some (.fptr (cs.drop (1 * m)), σ) := by simp [iaddrAV, natOf, h]
@[go_sem] theorem iaddrAF_2 {c m : Nat} {cs : List AVal} {kd : IntKind} {σ : Sto} (h : 2 < c) : iaddrAV c m (.fptr cs) (.int kd 2) σ = some (.fptr (cs.drop (2 * m)), σ) := by simp [iaddrAV, natOf, h]

def addO (c : Cm) (t : Tri) (o : Opr) : Cm := if t.c % 5 = 0 then c else ⟨c.st, c.seq, c.pf, c.past, c.ver, .lst, c.ops ++ [o]⟩

theorem app_oprs {σ : Sto} {o : Nat} {f : SlF} {X Y : List Opr} (hb : X.length + Y.length ≤ 1000000) (h : σ[o]? = some (.cells false (X.flatMap encO))) :
    appendV 9 112 (.ref o (X.length * 9) 0 X.length 9) (oprs f Y) σ = some (.ref o ((X ++ Y).length * 9) 0 (X ++ Y).length 9, σ.set o (.cells false ((X ++ Y).flatMap encO))) :=
  appendV_structs (g := encO) (by decide) (fun _ => rfl) encO_one h (by unfold maxBytes; omega)

theorem inner_oprs {a0 a1 a2 a3 : AVal} (p0 : a0.pure = true) (p1 : a1.pure = true) (p2 : a2.pure = true) (p3 : a3.pure = true) {A B C : AObj} {X : List Opr} :
    innerV (.ptr 1 5 0) [A, .cells false [a0, a1, a2, a3, .ref 3 (X.length * 9) 0 X.length 9], B, .cells false (X.flatMap encO), C] = some [A, .cells false [a0, a1, a2, a3, oprs .lst X], B, .dead, C] := by
  have hd := deep_structs (n := 62) (o := 3) (k := 9) (g := encO) (l := X) (σ := [A, .cells false [a0, a1, a2, a3, .ref 3 (X.length * 9) 0 X.length 9], B, .cells false (X.flatMap encO), C]) (by decide) (by decide) (fun _ => rfl) encO_pure rfl
  rw [show (62 + 2 : Nat) = snapDepth from rfl] at hd
  unfold innerV
  simp only [List.getElem?_cons_succ, List.getElem?_cons_zero, List.length_cons, List.length_nil, if_true, deepL, deepA_pure' p0, deepA_pure' p1, deepA_pure' p2, deepA_pure' p3, hd, oprs, sv_lst]
  rfl

theorem r23_With_c5 {f g : SlF} {l : List Cm} {b : List Tri} {out : List Cm} {i k n : Nat} {Q : Post3} {K : List Item} {c : Cm} {o : Opr} (hb : Fits b) (hc : c.ops.length ≤ 1000) (h1 : k < b.length) :
    Run T Q (.code r23_With.c5 :: .inBlock 3 :: .inTrunc 2 :: .code r23_With.c4 :: .inLoop r23_With.b1 :: K) (mkE 77 [(0, cms f l), (1, trisV g b), (5, .ref 0 (n * 5) 0 n 5), (6, .int .i64 i), (7, .ptr 1 5 0), (8, .int .i64 k), (9, .ptr 2 9 0)]) [ob out, .cells false (cellsM c), .cells false (encO o)] ↔
    Run T Q (.inLoop r23_With.b1 :: K) (mkE 77 [(0, cms f l), (1, trisV g b), (5, .ref 0 (n * 5) 0 n 5), (6, .int .i64 i), (7, .ptr 1 5 0), (8, .int .i64 ((k + 1 : Nat) : Int))]) [ob out, .cells false (cellsM (addO c b[k] o))] := by
  have w3 := wrap_succ (n := k) (by unfold Fits at hb; omega)
  unfold addO
  by_cases h3 : b[k].c % 5 = 0
  · simp (maxSteps := 2000000) only [go_sem, run_unfold r23_With.c5.eq_1, run_unfold r23_With.c4.eq_1, h1, h3, binV_rem, rem5, show ¬ ((5 : Int) = 0) by omega, w3, ob_names, AVal.unders, Int.natCast_zero, Int.ofNat_zero]
  · have g0 : (0 : Int) < ((b[k].c % 5 : Nat) : Int) := by omega
    simp (maxSteps := 2000000) only [go_sem, run_unfold r23_With.c5.eq_1, run_unfold r23_With.c4.eq_1, h1, h3, g0, binV_rem, rem5, show ¬ ((5 : Int) = 0) by omega, w3, ob_names, AVal.unders]
    rw [show appendV 9 112 (.ref 3 0 0 0 9) (oprs c.f c.ops) [ob out, .cells false (cellsM c), .cells false (encO o), .cells false []] = some (.ref 3 (c.ops.length * 9) 0 c.ops.length 9, [ob out, .cells false (cellsM c), .cells false (encO o), .cells false (c.ops.flatMap encO)]) from app_oprs (X := []) (by simp; omega) rfl]
    simp (maxSteps := 2000000) only [go_sem]
    rw [show appendV 9 112 (.ref 3 (c.ops.length * 9) 0 c.ops.length 9) (.ref 4 9 0 1 9) [ob out, .cells false (cellsM c), .cells false (encO o), .cells false (c.ops.flatMap encO), .cells false (encO o)] = some (.ref 3 ((c.ops ++ [o]).length * 9) 0 (c.ops ++ [o]).length 9, [ob out, .cells false (cellsM c), .cells false (encO o), .cells false ((c.ops ++ [o]).flatMap encO), .cells false (encO o)]) from appendV_struct (g := encO) (by decide) (fun _ => rfl) encO_one rfl rfl (by simp [maxBytes]; omega)]
    simp (maxSteps := 2000000) only [go_sem]
    rw [inner_oprs rfl rfl sv_pure rfl]
    simp (maxSteps := 2000000) only [go_sem, run_unfold r23_With.c4.eq_1, w3, ob_names, AVal.unders]

theorem r23_With_b1 {f g : SlF} {l : List Cm} {b : List Tri} {out : List Cm} {i k n : Nat} {Q : Post3} {K : List Item} {c : Cm} (hi : i ≤ 1000000) (hb : Fits b) (hc : c.ops.length ≤ 1000) (h1 : k < b.length) (h2 : k < 2 * i + 2) :
    Run T Q (.inLoop r23_With.b1 :: K) (mkE 77 [(0, cms f l), (1, trisV g b), (5, .ref 0 (n * 5) 0 n 5), (6, .int .i64 i), (7, .ptr 1 5 0), (8, .int .i64 k)]) [ob out, .cells false (cellsM c)] ↔
    Run T Q (.inLoop r23_With.b1 :: K) (mkE 77 [(0, cms f l), (1, trisV g b), (5, .ref 0 (n * 5) 0 n 5), (6, .int .i64 i), (7, .ptr 1 5 0), (8, .int .i64 ((k + 1 : Nat) : Int))]) [ob out, .cells false (cellsM (stepW c b[k]))] := by
  have w1 : IntKind.i64.wrap (2 * (i : Int)) = ((2 * i : Nat) : Int) := by rw [wrap_i64 (by omega) (by omega)]; omega
  have w2 : IntKind.i64.wrap (((2 * i : Nat) : Int) + 2) = ((2 * i + 2 : Nat) : Int) := by rw [wrap_i64 (by omega) (by omega)]; omega
  have h2' : (k : Int) < ((2 * i + 2 : Nat) : Int) := by omega
  have e : stepW c b[k] = addO c b[k] (opW c.st b[k]) := rfl
  rw [e, ← r23_With_c5 hb hc h1]
  conv => lhs; rw [run_round, run_unfold r23_With.b1.eq_1]
  unfold opW
  by_cases h4 : b[k].a % 2 = 1
  · by_cases h5 : ((b[k].c % 4 : Nat) : Int) = c.st
    · have w4 : IntKind.i64.wrap (((b[k].c % 4 : Nat) : Int) + 1) = ((b[k].c % 4 + 1 : Nat) : Int) := by
        have : b[k].c % 4 < 4 := Nat.mod_lt _ (by decide)
        rw [wrap_i64 (by omega) (by omega)]; omega
      have w5 : Int.tmod ((b[k].c % 4 + 1 : Nat) : Int) 3 = (((b[k].c % 4 + 1) % 3 : Nat) : Int) := rfl
      simp (maxSteps := 2000000) only [go_sem, w1, w2, h1, h2', h4, eq_true h5, opB, w4, w5, binV_rem, show ¬ ((3 : Int) = 0) by omega, and_self]
    · simp (maxSteps := 2000000) only [go_sem, w1, w2, h1, h2', h4, eq_false h5, opB, and_false]
  · simp (maxSteps := 2000000) only [go_sem, w1, w2, h1, h2', h4, opB, false_and]
end Go.Abs
/- Chapter 23: commits with operations of bytes: all of a list. -/
set_option linter.unusedSimpArgs false
set_option linter.unusedVariables false
set_option maxRecDepth 10000
set_option maxHeartbeats 4000000
namespace Go.Abs
open Go
attribute [local go_sem_proc] Nat.reduceLT Nat.reduceEqDiff Nat.reduceLeDiff Nat.reduceAdd Nat.reduceSub Nat.reduceMul Int.reduceLT Int.reduceLE Int.reduceEq Int.reduceNeg
attribute [local go_sem_proc ↓] reduceIte

def withC (i : Nat) (b : List Tri) (c : Cm) : Cm := ((b.drop (2 * i)).take 2).foldl stepW c
def withL : Nat → List Tri → List Cm → List Cm
  | _, _, [] => []
  | i, b, c :: r => withC i b c :: withL (i + 1) b r
theorem withL_len : ∀ (l : List Cm) (i : Nat) (b : List Tri), (withL i b l).length = l.length
  | [], _, _ => rfl
  | c :: r, i, b => by simp [withL, withL_len r]
theorem stepW_ops (c : Cm) (t : Tri) : (stepW c t).ops.length ≤ c.ops.length + 1 := by
  unfold stepW
  split
  · omega
  · simp

theorem r23_With_exit {f g : SlF} {l : List Cm} {b : List Tri} {out : List Cm} {i k n : Nat} {Q : Post3} {K : List Item} {c : Cm} (hi : i ≤ 1000000) (h : k = 2 * i + 2 ∨ b.length ≤ k) :
    Run T Q (.inLoop r23_With.b1 :: .inBlock 2 :: .code (.ghost (.kill [8, 33])) :: K) (mkE 77 [(0, cms f l), (1, trisV g b), (5, .ref 0 (n * 5) 0 n 5), (6, .int .i64 i), (7, .ptr 1 5 0), (8, .int .i64 k)]) [ob out, .cells false (cellsM c)] ↔
    Run T Q K (mkE 77 [(0, cms f l), (1, trisV g b), (5, .ref 0 (n * 5) 0 n 5), (6, .int .i64 i), (7, .ptr 1 5 0)]) [ob out, .cells false (cellsM c)] := by
  have w1 : IntKind.i64.wrap (2 * (i : Int)) = ((2 * i : Nat) : Int) := by rw [wrap_i64 (by omega) (by omega)]; omega
  have w2 : IntKind.i64.wrap (((2 * i : Nat) : Int) + 2) = ((2 * i + 2 : Nat) : Int) := by rw [wrap_i64 (by omega) (by omega)]; omega
  rw [run_round, run_unfold r23_With.b1.eq_1]
  by_cases h1 : (k : Int) < ((2 * i + 2 : Nat) : Int)
  · have h2 : ¬ k < b.length := by omega
    simp (maxSteps := 2000000) only [go_sem, w1, w2, h1, h2]
  · simp (maxSteps := 2000000) only [go_sem, w1, w2, h1]

theorem r23_With_inner {f g : SlF} {l : List Cm} {b : List Tri} {out : List Cm} {i n : Nat} {Q : Post3} {K : List Item} {c : Cm} (hi : i ≤ 1000000) (hb : Fits b) (hc : c.ops.length ≤ 100) :
    Run T Q (.inLoop r23_With.b1 :: .inBlock 2 :: .code (.ghost (.kill [8, 33])) :: K) (mkE 77 [(0, cms f l), (1, trisV g b), (5, .ref 0 (n * 5) 0 n 5), (6, .int .i64 i), (7, .ptr 1 5 0), (8, .int .i64 ((2 * i : Nat) : Int))]) [ob out, .cells false (cellsM c)] ↔
    Run T Q K (mkE 77 [(0, cms f l), (1, trisV g b), (5, .ref 0 (n * 5) 0 n 5), (6, .int .i64 i), (7, .ptr 1 5 0)]) [ob out, .cells false (cellsM (withC i b c))] := by
  unfold withC
  by_cases h1 : 2 * i < b.length
  · rw [List.drop_eq_getElem_cons h1, List.take_succ_cons, List.foldl_cons, r23_With_b1 hi hb (by omega) h1 (by omega)]
    have hs := stepW_ops c b[2 * i]
    by_cases h2 : 2 * i + 1 < b.length
    · rw [List.drop_eq_getElem_cons h2, List.take_succ_cons, List.foldl_cons, List.take_zero, List.foldl_nil, r23_With_b1 hi hb (by omega) h2 (by omega), r23_With_exit hi (.inl (by omega))]
    · rw [List.drop_of_length_le (by omega), List.take_nil, List.foldl_nil, r23_With_exit hi (.inr (by omega))]
  · rw [List.drop_of_length_le (by omega), List.take_nil, List.foldl_nil, r23_With_exit hi (.inr (by omega))]

theorem r23_With_loop {f g : SlF} {l : List Cm} {b : List Tri} (hl : l.length ≤ 1000) (hb : Fits b) (hc : ∀ c ∈ l, c.ops.length ≤ 100) : ∀ i, i ≤ l.length → ∀ out : List Cm, out.length = i →
    Run T (Res [.tmp 4] (cms .lst (out ++ withL i b (l.drop i)))) (.inLoop r23_With.b0 :: r23_With.k0) (mkE 77 [(0, cms f l), (1, trisV g b), (5, .ref 0 (i * 5) 0 i 5), (6, .int .i64 i)]) [ob out] := by
  refine up_ind ?_ fun i hi ih => ?_
  · intro out ho
    rw [List.drop_length, withL, List.append_nil]
    rw [run_round, run_unfold r23_With.b0.eq_1]
    simp (maxSteps := 2000000) only [go_sem, Nat.lt_irrefl, run_unfold r23_With.c0.eq_1, run_unfold r23_With.c1.eq_1, run_unfold r23_With.c2.eq_1, run_unfold r23_With.c3.eq_1, run_unfold r23_With.c4.eq_1, run_unfold r23_With.c5.eq_1, r23_With.k0, r23_With.k1]
    have := snap_structs (n := 62) (o := 0) (k := 5) (g := cellsM) (l := out) (σ := [ob out]) (by decide) (by decide) (fun _ => rfl) cellsM_pureS rfl
    rw [ho] at this
    rw [show (64 : Nat) = 62 + 2 from rfl, this, cms, sv_lst]
  · intro out ho
    have hci := hc _ (List.getElem_mem hi)
    have w1 : IntKind.i64.wrap (2 * (i : Int)) = ((2 * i : Nat) : Int) := by rw [wrap_i64 (by omega) (by omega)]; omega
    have hw := wrap_succ (n := i) (by omega)
    rw [List.drop_eq_getElem_cons hi, withL]
    rw [run_round, run_unfold r23_With.b0.eq_1]
    simp (maxSteps := 2000000) only [go_sem, hi, w1]
    rw [r23_With_inner (by omega) hb hci]
    simp (maxSteps := 2000000) only [go_sem, run_unfold r23_With.c3.eq_1]
    have ha := appendV_struct (X := out) (y := withC i b l[i]) (o := 0) (o' := 2) (k := 5) (bytes := 72) (g := cellsM) (σ := [ob out, .cells false (cellsM (withC i b l[i])), .cells false (cellsM (withC i b l[i]))]) (by decide) (fun _ => rfl) cellsM_one rfl rfl (by simp [maxBytes]; omega)
    rw [ho] at ha
    refine after_of ha ?_
    have hl1 : (out ++ [withC i b l[i]]).length = i + 1 := by simp [ho]
    have := ih (out ++ [withC i b l[i]]) hl1
    simp only [List.append_assoc, List.singleton_append] at this
    simp (maxSteps := 2000000) only [go_sem, run_unfold r23_With.c2.eq_1, hw, hl1, ob_names, AVal.unders]
    exact this

theorem r23_With_spec {f g : SlF} {l : List Cm} {b : List Tri} (hl : l.length ≤ 1000) (hb : Fits b) (hc : ∀ c ∈ l, c.ops.length ≤ 100) {lv : List Nat} {σ : Sto} {R : Post} : Cw T true i_r23_With [cms f l, trisV g b] lv σ R ↔ R (cms .lst (withL 0 b l)) σ := by
  refine cw_intro T_r23_With (by simp only [go_sem]) (by simp) ?_; rw [run_unfold r23_With.main.eq_1]
  simp (maxSteps := 2000000) only [go_sem]
  exact r23_With_loop hl hb hc 0 (by omega) [] rfl
@[go_sem] theorem r23_With_call {f g : SlF} {l : List Cm} {b : List Tri} (hl : l.length ≤ 1000) (hb : Fits b) (hc : ∀ c ∈ l, c.ops.length ≤ 100) {Q : Post3} {k : List Item} {os : List AOper} {d : Option Nat} {e : Env} {σ : Sto} : CallK T Q k os d e σ true i_r23_With [cms f l, trisV g b] ↔ Run T Q (.ops os :: k) (put e d (cms .lst (withL 0 b l))) σ := r23_With_spec hl hb hc


def okS (c : Cm) : Bool := decide (c.ops.length ≤ 8) && decide (c.past.length ≤ 9)
theorem l23_short_loop {f : SlF} {l : List Cm} (hl : Fits l) : ∀ i, i ≤ (l.take 17).length →
    Run T (Res [.tmp 2] (.bool (((l.take 17).drop i).all okS && decide (l.length ≤ 16)))) (.inLoop l23_short.b0 :: l23_short.k0) (mkE 33 [(0, cms f l), (3, .int .i64 i)]) [] := by
  refine up_ind ?_ fun i hi ih => ?_
  · have hm : (l.take 17).length = min 17 l.length := List.length_take
    rw [List.drop_length, List.all_nil, Bool.true_and]
    rw [run_round, run_unfold l23_short.b0.eq_1]
    by_cases h1 : l.length < 17
    · rw [show (l.take 17).length = l.length by omega]
      have h2 : l.length ≤ 16 := by omega
      have h3 : (l.length : Int) ≤ 16 := by omega
      simp (maxSteps := 2000000) only [go_sem, Nat.lt_irrefl, run_unfold l23_short.c0.eq_1, l23_short.k0, h2, h3]
    · rw [show (l.take 17).length = 17 by omega]
      have h2 : ¬ l.length ≤ 16 := by omega
      have h3 : ¬ (l.length : Int) ≤ 16 := by omega
      by_cases h4 : (17 : Int) < l.length
      · simp (maxSteps := 2000000) only [go_sem, run_unfold l23_short.c0.eq_1, l23_short.k0, h2, h3, h4]
      · simp (maxSteps := 2000000) only [go_sem, run_unfold l23_short.c0.eq_1, l23_short.k0, h2, h3, h4]
  · have hm : (l.take 17).length = min 17 l.length := List.length_take
    have hi1 : i < l.length := by omega
    have hi2 : (i : Int) < 17 := by omega
    rw [List.drop_eq_getElem_cons hi, List.all_cons, List.getElem_take, okS]
    rw [run_round, run_unfold l23_short.b0.eq_1]
    by_cases h1 : l[i].ops.length ≤ 8
    · by_cases h2 : l[i].past.length ≤ 9
      · simp (maxSteps := 2000000) only [go_sem, hi1, hi2, h1, h2, show ¬ (8 : Int) < (l[i].ops.length : Int) by omega, show ¬ (9 : Int) < (l[i].past.length : Int) by omega, wrap_succ (show i < 9223372036854775807 by omega)]
        exact ih
      · simp (maxSteps := 2000000) only [go_sem, hi1, hi2, h1, h2, show ¬ (8 : Int) < (l[i].ops.length : Int) by omega, show (9 : Int) < (l[i].past.length : Int) by omega, Bool.false_and, Bool.and_false]
    · simp (maxSteps := 2000000) only [go_sem, hi1, hi2, h1, show (8 : Int) < (l[i].ops.length : Int) by omega, Bool.false_and]
theorem l23_short_spec {f : SlF} {l : List Cm} (hl : Fits l) {lv : List Nat} {σ : Sto} {R : Post} : Cw T true i_l23_short [cms f l] lv σ R ↔ R (.bool ((l.take 17).all okS && decide (l.length ≤ 16))) σ := by
  refine cw_intro T_l23_short (by simp only [go_sem]) (by simp) ?_; rw [run_unfold l23_short.main.eq_1]
  simp (maxSteps := 2000000) only [go_sem]
  have := l23_short_loop (f := f) hl 0 (by omega)
  rw [List.drop_zero] at this
  exact this
@[go_sem] theorem l23_short_call {f : SlF} {l : List Cm} (hl : Fits l) {Q : Post3} {k : List Item} {os : List AOper} {d : Option Nat} {e : Env} {σ : Sto} : CallK T Q k os d e σ true i_l23_short [cms f l] ↔ Run T Q (.ops os :: k) (put e d (.bool ((l.take 17).all okS && decide (l.length ≤ 16)))) σ := l23_short_spec hl

end Go.Abs
/- Chapter 23: the commits of which each is covered. -/
set_option linter.unusedSimpArgs false
set_option linter.unusedVariables false
set_option maxRecDepth 100000
set_option maxHeartbeats 4000000
namespace Go.Abs
open Go
attribute [local go_sem_proc] Nat.reduceLT Nat.reduceEqDiff Nat.reduceLeDiff Nat.reduceAdd Nat.reduceSub Nat.reduceMul Int.reduceLT Int.reduceLE Int.reduceEq Int.reduceNeg
attribute [local go_sem_proc ↓] reduceIte

def bare (c : Cm) : Cm := ⟨c.st, c.seq, c.pf, c.past, c.ver, .nil, []⟩
def keptC (s : List Int) (X : List Cm) (c : Cm) : Cm := if covP s X c then c else bare c
def keptL (s : List Int) : List Cm → List Cm → List Cm
  | X, [] => X
  | X, c :: r => keptL s (X ++ [keptC s X c]) r

theorem keptC_ops (s : List Int) (X : List Cm) (c : Cm) : (keptC s X c).ops.length ≤ c.ops.length := by
  unfold keptC
  split
  · exact Nat.le_refl _
  · exact Nat.zero_le _

theorem snap_cms {n o : Nat} {l : List Cm} {σ : Sto} (hσ : σ[o]? = some (ob l)) : snapA σ (n + 2) (.ref o (l.length * 5) 0 l.length 5) = some (cms .lst l) := by
  rw [snap_structs (k := 5) (by decide) (by decide) cellsM_len cellsM_pureS hσ]; exact congrArg some (sv_lst _ _).symm

theorem l23_kept_loop {f g : SlF} {s : List Int} {l : List Cm} (hl : l.length ≤ 16) (hc : ∀ c ∈ l, c.ops.length ≤ 100) : ∀ i, i ≤ l.length → ∀ X : List Cm, X.length = i → (∀ c ∈ X, c.ops.length ≤ 100) →
    Run T (Res [.tmp 4] (cms .lst (keptL s X (l.drop i)))) (.inLoop l23_kept.b0 :: l23_kept.k0) (mkE 30 [(0, ints g s), (1, cms f l), (5, .ref 0 (i * 5) 0 i 5), (6, .int .i64 i)]) [ob X] := by
  refine up_ind ?_ fun i hi ih => ?_
  · intro X ho _
    rw [List.drop_length, keptL]
    rw [run_round, run_unfold l23_kept.b0.eq_1]
    simp (maxSteps := 2000000) only [go_sem, Nat.lt_irrefl, run_unfold l23_kept.c0.eq_1, run_unfold l23_kept.c1.eq_1, run_unfold l23_kept.c2.eq_1, run_unfold l23_kept.c3.eq_1, l23_kept.k0]
    have := snap_cms (n := 62) (o := 0) (l := X) (σ := [ob X]) rfl
    rw [ho] at this
    rw [show (64 : Nat) = 62 + 2 from rfl, this]
  · intro X ho hX
    have hci := hc _ (List.getElem_mem hi)
    have hw := wrap_succ (n := i) (by omega)
    have hcv := fun {lv : List Nat} {σ : Sto} {R : Post} => escrow_Covered_spec (f := .lst) (g := g) (s := s) (l := X) (c := l[i]) (by omega) (fun c hc => by have := hX c hc; unfold Fits; omega) (by unfold Fits; omega) (lv := lv) (σ := σ) (R := R)
    rw [List.drop_eq_getElem_cons hi, keptL]
    have hsn := fun σ' => snap_cms (n := 62) (o := 0) (l := X) (σ := ob X :: σ') rfl
    rw [show (62 + 2 : Nat) = 64 from rfl] at hsn
    rw [ho] at hsn
    have hlv := fun (Q : Post3) (k' : List Item) (os : List AOper) (d : Option Nat) (e : Env) => callK_live (Q := Q) (k := k') (os := os) (d := d) (e := e) (σ := [ob X, .cells false (cellsM l[i])]) T_escrow_Covered (args := [ints g s, .ref 0 (i * 5) 0 i 5, encM l[i]]) (as := [ints g s, cms .lst X, encM l[i]]) hcv (by
      rw [snapDepth_eq, mapM_scons, snapA_step (by simp (maxSteps := 2000000) only [go_sem]), mapM_scons, hsn, mapM_scons, snapA_step (by simp (maxSteps := 2000000) only [go_sem]), mapM_snil]) (by simp (maxSteps := 2000000) only [go_sem]) rfl
    have hl1 : (X ++ [keptC s X l[i]]).length = i + 1 := by simp [ho]
    have ih1 := ih (X ++ [keptC s X l[i]]) hl1 (fun c hc => by
      rcases List.mem_append.1 hc with h | h
      · exact hX c h
      · rw [List.mem_singleton.1 h]; exact Nat.le_trans (keptC_ops _ _ _) hci)
    have ha := fun y => appendV_struct (X := X) (y := y) (o := 0) (o' := 2) (k := 5) (bytes := 72) (g := cellsM) (σ := [ob X, .cells false (cellsM y), .cells false (cellsM y)]) (by decide) (fun _ => rfl) cellsM_one rfl rfl (by simp [maxBytes]; omega)
    simp only [ho] at ha
    unfold keptC at hl1 ih1
    unfold keptC
    cases hv : covP s X l[i]
    · rw [hv] at hl1 ih1
      simp only [Bool.false_eq_true, if_false] at hl1 ih1 ⊢
      rw [run_round, run_unfold l23_kept.b0.eq_1]
      simp (maxSteps := 2000000) only [go_sem, hi]
      rw [hlv]
      simp (maxSteps := 2000000) only [go_sem, hv, run_unfold l23_kept.c3.eq_1]
      refine after_of (ha (bare l[i])) ?_
      simp (maxSteps := 2000000) only [go_sem, run_unfold l23_kept.c2.eq_1, hw, hl1, ob_names, AVal.unders]
      exact ih1
    · rw [hv] at hl1 ih1
      simp only [if_true] at hl1 ih1 ⊢
      rw [run_round, run_unfold l23_kept.b0.eq_1]
      simp (maxSteps := 2000000) only [go_sem, hi]
      rw [hlv]
      simp (maxSteps := 2000000) only [go_sem, hv, run_unfold l23_kept.c3.eq_1]
      refine after_of (ha (l[i])) ?_
      simp (maxSteps := 2000000) only [go_sem, run_unfold l23_kept.c2.eq_1, hw, hl1, ob_names, AVal.unders]
      exact ih1
theorem l23_kept_spec {f g : SlF} {s : List Int} {l : List Cm} (hl : l.length ≤ 16) (hc : ∀ c ∈ l, c.ops.length ≤ 100) {lv : List Nat} {σ : Sto} {R : Post} : Cw T true i_l23_kept [ints g s, cms f l] lv σ R ↔ R (cms .lst (keptL s [] l)) σ := by
  refine cw_intro T_l23_kept (by simp only [go_sem]) (by simp) ?_; rw [run_unfold l23_kept.main.eq_1]
  simp (maxSteps := 2000000) only [go_sem]
  exact l23_kept_loop hl hc 0 (by omega) [] rfl (fun c hc => by simp at hc)
@[go_sem] theorem l23_kept_call {f g : SlF} {s : List Int} {l : List Cm} (hl : l.length ≤ 16) (hc : ∀ c ∈ l, c.ops.length ≤ 100) {Q : Post3} {k : List Item} {os : List AOper} {d : Option Nat} {e : Env} {σ : Sto} : CallK T Q k os d e σ true i_l23_kept [ints g s, cms f l] ↔ Run T Q (.ops os :: k) (put e d (cms .lst (keptL s [] l))) σ := l23_kept_spec hl hc

end Go.Abs
/- Chapter 23: whether all is done; an order in which each commit is behind its past. -/
set_option linter.unusedSimpArgs false
set_option linter.unusedVariables false
set_option maxRecDepth 100000
set_option maxHeartbeats 4000000
namespace Go.Abs
open Go
attribute [local go_sem_proc] Nat.reduceLT Nat.reduceEqDiff Nat.reduceLeDiff Nat.reduceAdd Nat.reduceSub Nat.reduceMul Int.reduceLT Int.reduceLE Int.reduceEq Int.reduceNeg
attribute [local go_sem_proc ↓] reduceIte

theorem l23_all_loop {f fb : SlF} {s : List Int} {x : List Bool} {n : Int} (hs : Fits s) (hx : x.length ≤ 1000000) : ∀ i, i ≤ x.length →
    Run T (Res [.tmp 4] (.bool ((x.drop i).all id && decide ((x.length : Int) = n) && svalid s))) (.inLoop l23_all.b0 :: l23_all.k0) (mkE 29 [(1, .int .i64 n), (2, .ptr 0 2 0), (5, .int .i64 i)]) [.cells false [ints f s, boolsV fb x]] := by
  refine up_ind ?_ fun i hi ih => ?_
  · rw [List.drop_length, List.all_nil, Bool.true_and]
    rw [run_round, run_unfold l23_all.b0.eq_1]
    by_cases h : (x.length : Int) = n
    · simp (maxSteps := 2000000) only [go_sem, Nat.lt_irrefl, run_unfold l23_all.c0.eq_1, l23_all.k0, h, hs]
    · simp (maxSteps := 2000000) only [go_sem, Nat.lt_irrefl, run_unfold l23_all.c0.eq_1, l23_all.k0, h, hs, Bool.false_and]
  · have hw := wrap_succ (n := i) (by omega)
    rw [List.drop_eq_getElem_cons hi, List.all_cons]
    rw [run_round, run_unfold l23_all.b0.eq_1]
    cases hv : x[i]
    · simp (maxSteps := 2000000) only [go_sem, hi, hv, id, Bool.false_and]
    · simp (maxSteps := 2000000) only [go_sem, hi, hv, hw, id, Bool.true_and]
      exact ih
theorem l23_all_spec {f fb : SlF} {s : List Int} {x : List Bool} {n : Int} (hs : Fits s) (hx : x.length ≤ 1000000) {lv : List Nat} {σ : Sto} {R : Post} : Cw T true i_l23_all [.agg [ints f s, boolsV fb x], .int .i64 n] lv σ R ↔ R (.bool (x.all id && decide ((x.length : Int) = n) && svalid s)) σ := by
  refine cw_intro T_l23_all (by simp only [go_sem]) (by simp) ?_; rw [run_unfold l23_all.main.eq_1]
  simp (maxSteps := 2000000) only [go_sem]
  have := l23_all_loop (f := f) (fb := fb) (n := n) hs hx 0 (by omega)
  rw [List.drop_zero] at this
  exact this
@[go_sem] theorem l23_all_call {f fb : SlF} {s : List Int} {x : List Bool} {n : Int} (hs : Fits s) (hx : x.length ≤ 1000000) {Q : Post3} {k : List Item} {os : List AOper} {d : Option Nat} {e : Env} {σ : Sto} : CallK T Q k os d e σ true i_l23_all [.agg [ints f s, boolsV fb x], .int .i64 n] ↔ Run T Q (.ops os :: k) (put e d (.bool (x.all id && decide ((x.length : Int) = n) && svalid s))) σ := l23_all_spec hs hx


/-! ### causal -/
def freeF (left : List Cm) : Nat → List Cm → List Nat
  | _, [] => []
  | i, c :: r => if left.all (fun x => !sees2 c x) then i :: freeF left (i + 1) r else freeF left (i + 1) r
theorem freeF_len (left : List Cm) : ∀ (r : List Cm) (i : Nat), (freeF left i r).length ≤ r.length
  | [], _ => Nat.le_refl _
  | c :: r, i => by
    have := freeF_len left r (i + 1)
    unfold freeF
    split
    · simp; omega
    · simp; omega
theorem freeF_mem (left : List Cm) : ∀ (r : List Cm) (i j : Nat), j ∈ freeF left i r → i ≤ j ∧ ∃ h : j - i < r.length, left.all (fun x => !sees2 r[j - i] x) = true
  | [], _, _, h => by simp [freeF] at h
  | c :: r, i, j, h => by
    unfold freeF at h
    have key : j ∈ freeF left (i + 1) r → i ≤ j ∧ ∃ h : j - i < (c :: r).length, left.all (fun x => !sees2 (c :: r)[j - i] x) = true := fun h => by
      obtain ⟨h1, h2, h3⟩ := freeF_mem left r (i + 1) j h
      refine ⟨by omega, by simp; omega, ?_⟩
      have e : j - i = (j - (i + 1)) + 1 := by omega
      simp only [e, List.getElem_cons_succ]
      exact h3
    split at h
    · rename_i hc
      rcases List.mem_cons.1 h with rfl | h
      · refine ⟨Nat.le_refl _, by simp, ?_⟩
        simpa using hc
      · exact key h
    · exact key h

abbrev natsO (nx : List Nat) : AObj := .cells false (nx.map fun n => .int .i64 ((n : Nat) : Int))
theorem nats_names {p : Nat → Bool} (nx : List Nat) : AVal.namesL p (nx.map fun n => .int .i64 ((n : Nat) : Int)) = true := v_names_map (fun _ => rfl) nx

theorem causal_b2 {g : SlF} {b : List Nat} {left out : List Cm} {nx : List Nat} {n m i : Nat} {Q : Post3} {K : List Item} (hi : i < left.length) (hl : left.length ≤ 100) : ∀ k, k ≤ left.length → ∀ fr : Bool,
    Run T Q K (mkE 91 [(1, bytesV g b), (5, .ref 0 (n * 5) 0 n 5), (6, cms .lst left), (7, .ref 2 m 0 m 1), (8, .int .i64 i), (9, .bool (fr && (left.drop k).all fun x => !sees2 left[i] x))]) [ob out, .dead, natsO nx] →
    Run T Q (.inLoop l23_causal.b2 :: .inBlock 4 :: .code (.ghost (.kill [10, 29])) :: K) (mkE 91 [(1, bytesV g b), (5, .ref 0 (n * 5) 0 n 5), (6, cms .lst left), (7, .ref 2 m 0 m 1), (8, .int .i64 i), (9, .bool fr), (10, .int .i64 k)]) [ob out, .dead, natsO nx] := by
  refine up_ind ?_ fun k hk ih => ?_
  · intro fr h
    rw [List.drop_length, List.all_nil, Bool.and_true] at h
    rw [run_round, run_unfold l23_causal.b2.eq_1]
    simp (maxSteps := 2000000) only [go_sem, Nat.lt_irrefl]
    exact h
  · intro fr h
    have hw := wrap_succ (n := k) (by omega)
    rw [List.drop_eq_getElem_cons hk, List.all_cons, ← Bool.and_assoc] at h
    have := ih _ h
    rw [run_round, run_unfold l23_causal.b2.eq_1]
    cases fr with
    | false =>
      simp (maxSteps := 2000000) only [go_sem, hk, hi, hw]
      rw [Bool.false_and] at this
      exact this
    | true =>
      simp (maxSteps := 2000000) only [go_sem, hk, hi, hw]
      rw [Bool.true_and] at this
      exact this

theorem causal_b1 {g : SlF} {b : List Nat} {left out : List Cm} {n : Nat} {Q : Post3} {K : List Item} (hl : left.length ≤ 100) : ∀ i, i ≤ left.length → ∀ nx : List Nat, nx.length ≤ i →
    Run T Q K (mkE 91 [(1, bytesV g b), (5, .ref 0 (n * 5) 0 n 5), (6, cms .lst left), (7, .ref 2 (nx ++ freeF left i (left.drop i)).length 0 (nx ++ freeF left i (left.drop i)).length 1)]) [ob out, .dead, natsO (nx ++ freeF left i (left.drop i))] →
    Run T Q (.inLoop l23_causal.b1 :: .inBlock 2 :: .code (.ghost (.kill [8, 23])) :: K) (mkE 91 [(1, bytesV g b), (5, .ref 0 (n * 5) 0 n 5), (6, cms .lst left), (7, .ref 2 nx.length 0 nx.length 1), (8, .int .i64 i)]) [ob out, .dead, natsO nx] := by
  refine up_ind ?_ fun i hi ih => ?_
  · intro nx hn h
    rw [List.drop_length, freeF, List.append_nil] at h
    rw [run_round, run_unfold l23_causal.b1.eq_1]
    simp (maxSteps := 2000000) only [go_sem, Nat.lt_irrefl]
    exact h
  · intro nx hn h
    have hw := wrap_succ (n := i) (by omega)
    rw [List.drop_eq_getElem_cons hi, freeF] at h
    rw [run_round, run_unfold l23_causal.b1.eq_1]
    simp (maxSteps := 2000000) only [go_sem, hi]
    refine causal_b2 hi hl 0 (by omega) true ?_
    rw [List.drop_zero, Bool.true_and]
    cases hfr : left.all fun x => !sees2 left[i] x with
    | false =>
      rw [hfr] at h
      have := ih nx (by omega) h
      simp (maxSteps := 2000000) only [go_sem, run_unfold l23_causal.c4.eq_1, run_unfold l23_causal.c3.eq_1, hw, nats_names, ob_names, AVal.unders]
      exact this
    | true =>
      rw [hfr] at h
      simp only [if_true] at h
      have e : nx ++ i :: freeF left (i + 1) (left.drop (i + 1)) = (nx ++ [i]) ++ freeF left (i + 1) (left.drop (i + 1)) := by simp
      rw [e] at h
      have h1 : (nx ++ [i]).length = nx.length + 1 := by simp
      have := ih (nx ++ [i]) (by rw [h1]; omega) h
      simp (maxSteps := 2000000) only [go_sem, run_unfold l23_causal.c4.eq_1]
      refine after_of (appendV_push (cs := nx.map fun n => .int .i64 ((n : Nat) : Int)) (v := .int .i64 (i : Int)) (by rfl) (by rfl) (by simp) rfl (by unfold maxBytes; omega)) ?_
      simp (maxSteps := 2000000) only [go_sem, run_unfold l23_causal.c3.eq_1, hw, nats_names, ob_names, AVal.unders]
      rw [h1, natsO, List.map_append] at this
      exact this
end Go.Abs
/- Chapter 23: an order in which each commit is behind its past: the walk. -/
set_option linter.unusedSimpArgs false
set_option linter.unusedVariables false
set_option maxRecDepth 100000
set_option maxHeartbeats 4000000
namespace Go.Abs
open Go
attribute [local go_sem_proc] Nat.reduceLT Nat.reduceEqDiff Nat.reduceLeDiff Nat.reduceAdd Nat.reduceSub Nat.reduceMul Int.reduceLT Int.reduceLE Int.reduceEq Int.reduceNeg
attribute [local go_sem_proc ↓] reduceIte

def pickN (b : List Nat) (n : Nat) (nx : List Nat) : Nat := nx.getD (if n < b.length then b.getD n 0 % nx.length else 0) 0
def causalL (b : List Nat) : Nat → List Cm → List Cm → Option (List Cm)
  | 0, out, _ => some out
  | m + 1, out, left =>
    if (freeF left 0 left).length = 0 then none else
    causalL b m (out ++ (left.drop (pickN b out.length (freeF left 0 left))).take 1) (left.take (pickN b out.length (freeF left 0 left)) ++ left.drop (pickN b out.length (freeF left 0 left) + 1))
def optC : Option (List Cm) → AVal
  | some o => cms .lst o
  | none => .nils

theorem pickN_mem (b : List Nat) (n : Nat) {nx : List Nat} (h : ¬ nx.length = 0) : pickN b n nx ∈ nx := by
  unfold pickN
  have h1 : (if n < b.length then b.getD n 0 % nx.length else 0) < nx.length := by
    split
    · exact Nat.mod_lt _ (by omega)
    · omega
  rw [List.getD_eq_getElem?_getD, List.getElem?_eq_getElem h1]
  exact List.getElem_mem h1

theorem iaddr_z {o gen off len k : Nat} {kd : IntKind} {σ : Sto} : iaddrV k (.ref o gen off len k) (.int kd 0) σ = match σ[o]? with
      | some (.cells _ cs) => if 0 < len ∧ cs.length = gen then some (.ptr o gen (off + 0 * k), σ) else none
      | _ => none := iaddrV_ref (i := 0)
theorem rem_n (x n : Nat) (h : x < 256) : IntKind.i64.wrap (Int.tmod (x : Int) (n : Int)) = ((x % n : Nat) : Int) := by
  have : Int.tmod (x : Int) (n : Int) = ((x % n : Nat) : Int) := rfl
  rw [this]
  have : x % n ≤ x := Nat.mod_le ..
  exact wrap_i64 (by omega) (by omega)
theorem causal_b0 {g : SlF} {b : List Nat} (hb : Fits b) (h8 : ∀ n ∈ b, n < 256) : ∀ (m : Nat) (left out : List Cm), left.length = m → m + out.length ≤ 100 →
    Run T (Res [.tmp 4] (optC (causalL b m out left))) (.inLoop l23_causal.b0 :: l23_causal.k0) (mkE 91 [(1, bytesV g b), (5, .ref 0 (out.length * 5) 0 out.length 5), (6, cms .lst left)]) [ob out, .dead]
  | 0, left, out, hm, h => by
    obtain rfl := List.eq_nil_of_length_eq_zero hm
    unfold causalL optC
    rw [run_round, run_unfold l23_causal.b0.eq_1]
    simp (maxSteps := 2000000) only [go_sem, List.length_nil, run_unfold l23_causal.c0.eq_1, run_unfold l23_causal.c1.eq_1, run_unfold l23_causal.c2.eq_1, run_unfold l23_causal.c3.eq_1, run_unfold l23_causal.c4.eq_1, l23_causal.k0, l23_causal.k1, l23_causal.k2]
    have := snap_cms (n := 62) (o := 0) (l := out) (σ := [ob out, .dead]) rfl
    rw [show (64 : Nat) = 62 + 2 from rfl, this]
  | m + 1, left, out, hm, h => by
    have hp : (0 : Int) < ((m + 1 : Nat) : Int) := by omega
    unfold causalL
    rw [run_round, run_unfold l23_causal.b0.eq_1]
    simp (maxSteps := 2000000) only [go_sem, hm, hp]
    refine causal_b1 (by omega) 0 (by omega) [] (by simp) ?_
    rw [List.drop_zero, List.nil_append]
    have hfl := freeF_len left left 0
    by_cases hz : (freeF left 0 left).length = 0
    · rw [if_pos hz]
      simp (maxSteps := 2000000) only [go_sem, run_unfold l23_causal.c2.eq_1, hz, optC]
    · have hpm := pickN_mem b out.length hz
      obtain ⟨_, hpl, _⟩ := freeF_mem left left 0 _ hpm
      rw [if_neg hz]
      have hpe : pickN b out.length (freeF left 0 left) = pickN b out.length (freeF left 0 left) := rfl
      conv at hpe => lhs; unfold pickN
      generalize pickN b out.length (freeF left 0 left) = a at hpm hpl hpe ⊢
      generalize freeF left 0 left = nx at hz hpm hpe hfl ⊢
      have fin : Run T (Res [.tmp 4] (optC (causalL b m (out ++ (left.drop a).take 1) (left.take a ++ left.drop (a + 1))))) (.code l23_causal.c1 :: .inBlock 1 :: .inTrunc 2 :: .inLoop l23_causal.b0 :: l23_causal.k0) (mkE 91 [(1, bytesV g b), (5, .ref 0 (out.length * 5) 0 out.length 5), (6, cms .lst left), (11, .int .i64 (a : Int))]) [ob out, .dead, natsO nx] := by
        have hal : a < left.length := by omega
        have h1 : (out ++ [left[a]]).length = out.length + 1 := by simp
        have h2 : (left.take a ++ left.drop (a + 1)).length = m := by simp; omega
        have ih := causal_b0 (g := g) hb h8 m (left.take a ++ left.drop (a + 1)) (out ++ [left[a]]) h2 (by rw [h1]; omega)
        rw [List.drop_eq_getElem_cons hal, List.take_succ_cons, List.take_zero]
        have ha := appendV_struct (X := out) (y := left[a]) (o := 0) (o' := 3) (k := 5) (bytes := 72) (g := cellsM) (σ := [ob out, .dead, natsO nx, .cells false (cellsM left[a])]) (by decide) (fun _ => rfl) cellsM_one rfl rfl (by simp [maxBytes]; omega)
        simp (maxSteps := 2000000) only [go_sem, run_unfold l23_causal.c1.eq_1, hal]
        refine after_of ha ?_
        have hwa := wrap_succ (n := a) (by omega)
        have hle1 : a ≤ left.length := by omega
        have hle2 : a + 1 ≤ left.length := by omega
        have hsl1 := fun (σ : Sto) => slice_sv_take (σ := σ) (g := encM) (k := 5) (kd := .i64) hle1
        have hsl2 := fun (σ : Sto) => slice_sv_drop (σ := σ) (g := encM) (k := 5) (kd := .i64) hle2
        have hX : (left.take a).length ≤ 100 := by rw [List.length_take]; omega
        have hY : (left.drop (a + 1)).length ≤ 100 := by rw [List.length_drop]; omega
        generalize left.take a = X at hX hsl1 ih h2 ⊢
        generalize left.drop (a + 1) = Y at hY hsl2 ih h2 ⊢
        simp (maxSteps := 2000000) only [go_sem, hsl1]
        refine after_of (appendV_structs (X := []) (Y := X) (g := cellsM) (by decide) (fun _ => rfl) cellsM_one rfl (by simp [maxBytes]; omega)) ?_
        simp (maxSteps := 2000000) only [go_sem, List.nil_append, hwa, hsl2]
        refine after_of (appendV_structs (X := X) (Y := Y) (g := cellsM) (by decide) (fun _ => rfl) cellsM_one rfl (by simp [maxBytes]; omega)) ?_
        simp (maxSteps := 2000000) only [go_sem]
        refine afterG_of (deep_structs (n := 62) (o := 4) (l := X ++ Y) (g := cellsM) (k := 5) (by decide) (by decide) (fun _ => rfl) cellsM_pureS rfl) ?_
        rw [← sv_lst]
        simp (maxSteps := 2000000) only [go_sem, ob_names, nats_names, AVal.unders]
        exact ih
      have hz' : ¬ (nx.length : Int) = 0 := by omega
      have hzp : 0 < nx.length := by omega
      have hnl : (nx.map fun n => AVal.int .i64 ((n : Nat) : Int)).length = nx.length := List.length_map ..
      have hj : ∀ x : Nat, x % nx.length < nx.length := fun x => Nat.mod_lt _ hzp
      have hl0 : loadA false 1 (nx.map fun n => AVal.int .i64 ((n : Nat) : Int)) = some (.int .i64 ((nx[0] : Nat) : Int)) := by
        have := loadA_drop (m := 1) (i := 0) (g := fun n : Nat => AVal.int .i64 (n : Int)) (l := nx) hzp
        rwa [List.drop_zero] at this
      by_cases hbl : out.length < b.length
      · have hb8 := h8 _ (List.getElem_mem hbl)
        have hn8 : Int.tmod (b[out.length] : Int) (nx.length : Int) = ((b[out.length] % nx.length : Nat) : Int) := rfl
        have hwb : IntKind.i64.wrap (b[out.length] : Int) = (b[out.length] : Int) := wrap_i64 (by omega) (by omega)
        have hga : nx[b[out.length] % nx.length]'(hj _) = a := by
          rw [if_pos hbl, List.getD_eq_getElem?_getD, List.getD_eq_getElem?_getD, List.getElem?_eq_getElem hbl] at hpe
          rw [List.getElem?_eq_getElem (hj _)] at hpe
          exact hpe
        simp (maxSteps := 2000000) only [go_sem, run_unfold l23_causal.c2.eq_1, hz', hbl, iaddr_z, hzp, hnl, iaddrV_ref, binV_rem, hj, hl0, hn8, hwb, hga, ob_len]
        exact fin
      · have hga : nx[0] = a := by
          rw [if_neg hbl, List.getD_eq_getElem?_getD, List.getElem?_eq_getElem hzp] at hpe
          exact hpe
        simp (maxSteps := 2000000) only [go_sem, run_unfold l23_causal.c2.eq_1, hz', hbl, iaddr_z, hzp, hnl, iaddrV_ref, hl0, hga, ob_len]
        exact fin

theorem l23_causal_spec {f g : SlF} {l o : List Cm} {b : List Nat} (hb : Fits b) (h8 : ∀ n ∈ b, n < 256) (hl : l.length ≤ 100) (ho : causalL b l.length .nil l = some o) {lv : List Nat} {σ : Sto} {R : Post} : Cw T true i_l23_causal [cms f l, bytesV g b] lv σ R ↔ R (cms .lst o) σ := by
  refine cw_intro T_l23_causal (by simp only [go_sem]) (by simp) ?_; rw [run_unfold l23_causal.main.eq_1]
  simp (maxSteps := 2000000) only [go_sem]
  refine after_of (appendV_structs (X := []) (Y := l) (g := cellsM) (by decide) (fun _ => rfl) cellsM_one rfl (by simp [maxBytes]; omega)) ?_
  simp (maxSteps := 2000000) only [go_sem, List.nil_append]
  refine afterG_of (deep_structs (n := 62) (o := 1) (l := l) (g := cellsM) (k := 5) (by decide) (by decide) (fun _ => rfl) cellsM_pureS rfl) ?_
  rw [← sv_lst]
  have := causal_b0 (g := g) hb h8 l.length l [] rfl (by simp; omega)
  rw [ho] at this
  simp (maxSteps := 2000000) only [go_sem]
  exact this
@[go_sem] theorem l23_causal_call {f g : SlF} {l o : List Cm} {b : List Nat} (hb : Fits b) (h8 : ∀ n ∈ b, n < 256) (hl : l.length ≤ 100) (ho : causalL b l.length .nil l = some o) {Q : Post3} {k : List Item} {os : List AOper} {d : Option Nat} {e : Env} {σ : Sto} : CallK T Q k os d e σ true i_l23_causal [cms f l, bytesV g b] ↔ Run T Q (.ops os :: k) (put e d (cms .lst o)) σ := l23_causal_spec hb h8 hl ho

end Go.Abs
/- Chapter 23: the theorem of promises, in plain words. -/
set_option linter.unusedSimpArgs false
set_option linter.unusedVariables false
namespace Go.Abs
open Go

theorem pw_eq {α : Type} {R : α → α → Prop} (sym : ∀ a b, R a b → R b a) : ∀ {l : List α}, l.Pairwise (fun a b => ¬ R a b) → ∀ {a b : α}, a ∈ l → b ∈ l → R a b → a = b
  | [], _, a, b, ha, _, _ => by simp at ha
  | c :: l, h, a, b, ha, hb, r => by
    rw [List.pairwise_cons] at h
    rcases List.mem_cons.1 ha with ha' | ha'
    · rcases List.mem_cons.1 hb with hb' | hb'
      · rw [ha', hb']
      · exact absurd (ha' ▸ r) (h.1 b hb')
    · rcases List.mem_cons.1 hb with hb' | hb'
      · exact absurd (hb' ▸ sym _ _ r) (h.1 a ha')
      · exact pw_eq sym h.2 ha' hb' r

/-- a consistent list of commits with operations -/
def MGood (l : List Cm) : Prop := LGood (l.map Cm.com)
theorem MGood.memc {l : List Cm} {c : Cm} (hc : c ∈ l) : c.com ∈ l.map Cm.com := List.mem_map_of_mem hc
theorem MGood.eq {l : List Cm} (h : MGood l) {a b : Cm} (ha : a ∈ l) (hb : b ∈ l) (e1 : a.st = b.st) (e2 : a.seq = b.seq) : a = b := by
  have := h.nd
  rw [List.pairwise_map] at this
  exact pw_eq (R := fun a b : Cm => a.st = b.st ∧ a.seq = b.seq) (fun a b h => ⟨h.1.symm, h.2.symm⟩) this ha hb ⟨e1, e2⟩
theorem MGood.coms {l : List Cm} (h : MGood l) {c : Cm} (hc : c ∈ l) : CGood (l.map Cm.com) c.com := LGood.coms h _ (MGood.memc hc)
theorem MGood.iff {l : List Cm} (h : MGood l) {c x : Cm} (hc : c ∈ l) (hx : x ∈ l) : sees2 c x = true ↔ x.seq ≤ c.past.getD x.st.toNat 0 :=
  sees_iff h (MGood.memc hc) (MGood.memc hx)
theorem MGood.irr {l : List Cm} (h : MGood l) {c : Cm} (hc : c ∈ l) : sees2 c c = false := by
  cases hs : sees2 c c with
  | false => rfl
  | true => have := sees_sum h (MGood.memc hc) (MGood.memc hc) hs; omega
theorem MGood.trans {l : List Cm} (h : MGood l) {c x y : Cm} (hc : c ∈ l) (hx : x ∈ l) (hy : y ∈ l) (h1 : sees2 c x = true) (h2 : sees2 x y = true) : sees2 c y = true := by
  rw [h.iff hx hy] at h2
  rw [h.iff hc hy]
  exact Int.le_trans h2 (Int.le_trans (past_le_own (h.coms hx) _) (sees_le h (MGood.memc hc) (MGood.memc hx) h1 _))
theorem MGood.same {l : List Cm} (h : MGood l) {c x : Cm} (hc : c ∈ l) (hx : x ∈ l) (e : x.st = c.st) (hne : x ≠ c) : sees2 c x = true ∨ sees2 x c = true := by
  have h1 : c.seq = c.past.getD c.st.toNat 0 + 1 := (h.coms hc).seq
  have h2 : x.seq = x.past.getD x.st.toNat 0 + 1 := (h.coms hx).seq
  rw [h.iff hc hx, h.iff hx hc]
  rw [e] at h2 ⊢
  have : ¬ x.seq = c.seq := fun e2 => hne (h.eq hx hc e e2)
  omega
theorem MGood.bef {l : List Cm} (h : MGood l) {c x : Cm} (hc : c ∈ l) (hx : x ∈ l) (h1 : sees2 c x = true) : bef2 x c = true := by
  have hsum := sees_sum h (MGood.memc hc) (MGood.memc hx) h1
  unfold bef2
  rw [before_iff h (MGood.memc hx) (MGood.memc hc), cmpC_lt]
  have : ¬ sumW x.com.past = sumW c.com.past := by omega
  simp [this, hsum]

/-! ### Sums over commits -/
def sumE (E : Cm → Nat → Int) (q : List Cm) (i : Nat) : Int := (q.map fun c => E c i).sum
theorem sumE_app {E : Cm → Nat → Int} {a b : List Cm} {i : Nat} : sumE E (a ++ b) i = sumE E a i + sumE E b i := by
  unfold sumE
  rw [List.map_append, List.sum_append]
theorem sumE_cons {E : Cm → Nat → Int} {x : Cm} {b : List Cm} {i : Nat} : sumE E (x :: b) i = E x i + sumE E b i := by
  unfold sumE
  rw [List.map_cons, List.sum_cons]
theorem sumE_same {E : Cm → Nat → Int} {i : Nat} : ∀ {a b : List Cm}, a.Pairwise (fun x y => x ≠ y) → b.Pairwise (fun x y => x ≠ y) → (∀ x, x ∈ a ↔ x ∈ b) → sumE E a i = sumE E b i
  | [], b, _, _, h => by
    have : b = [] := List.eq_nil_iff_forall_not_mem.2 fun x hx => by simpa using (h x).2 hx
    rw [this]
  | x :: a, b, ha, hb, h => by
    rw [List.pairwise_cons] at ha
    obtain ⟨s, t, rfl⟩ := List.append_of_mem ((h x).1 (by simp))
    rw [List.pairwise_append, List.pairwise_cons] at hb
    obtain ⟨hs, ⟨hxt, ht⟩, hst⟩ := hb
    have := sumE_same (E := E) (i := i) (a := a) (b := s ++ t) ha.2 (List.pairwise_append.2 ⟨hs, ht, fun p hp q hq => hst p hp q (by simp [hq])⟩) fun y => by
      have hy := h y
      simp only [List.mem_cons, List.mem_append] at hy ⊢
      constructor
      · intro m
        have n := ha.1 y m
        rcases hy.1 (.inr m) with h1 | h1 | h1
        · exact .inl h1
        · exact absurd h1.symm n
        · exact .inr h1
      · intro m
        have n : y ≠ x := by
          rcases m with m | m
          · exact hst y m x (by simp)
          · exact fun e => hxt y m e.symm
        rcases hy.2 (m.elim .inl fun m => .inr (.inr m)) with h1 | h1
        · exact absurd h1 n
        · exact h1
    rw [sumE_cons, this, sumE_app, sumE_app, sumE_cons]
    omega
theorem sumE_filter {E : Cm → Nat → Int} {p : Cm → Bool} {i : Nat} : ∀ a : List Cm, sumE E a i = sumE E (a.filter p) i + sumE E (a.filter fun x => !p x) i
  | [] => rfl
  | x :: a => by
    have := sumE_filter (E := E) (p := p) (i := i) a
    cases h : p x
    · rw [List.filter_cons_of_neg (by simp [h]), List.filter_cons_of_pos (by simp [h]), sumE_cons, sumE_cons]; omega
    · rw [List.filter_cons_of_pos (by simp [h]), List.filter_cons_of_neg (by simp [h]), sumE_cons, sumE_cons]; omega
theorem sumE_pos {E : Cm → Nat → Int} {i : Nat} : ∀ {a : List Cm}, (∀ x ∈ a, 0 ≤ E x i) → 0 ≤ sumE E a i
  | [], _ => Int.le_refl _
  | x :: a, h => by
    rw [sumE_cons]
    have := h x (by simp)
    have := sumE_pos (E := E) (i := i) (a := a) fun y hy => h y (by simp [hy])
    omega

/-! ### Plays in which all is done -/
def runL : List Int → List Cm → Option (List Int)
  | s, [] => some s
  | s, c :: r => (doP s c).bind fun y => runL y r
theorem play_run : ∀ {q : List Cm} {s z : List Int}, runL s q = some z → playL s q = (z, List.replicate q.length true)
  | [], s, z, h => by cases h; rfl
  | c :: r, s, z, h => by
    simp only [runL, Option.bind_eq_some_iff] at h
    obtain ⟨y, h1, h2⟩ := h
    have := play_run h2
    rw [playL, h1, Option.getD_some, this, List.length_cons, List.replicate_succ]
    rfl

/-- each commit is behind its past -/
def CF (L : List Cm) : List Cm → List Cm → Prop
  | _, [] => True
  | out, x :: r => (∀ y ∈ L, sees2 x y = true → y ∈ out) ∧ CF L (out ++ [x]) r
theorem cf_sorted {L : List Cm} (h : MGood L) : ∀ (q out : List Cm), (∀ x ∈ out ++ q, x ∈ L) → (∀ x ∈ out ++ q, ∀ y ∈ L, sees2 x y = true → y ∈ out ++ q) → (out ++ q).Pairwise (fun a b => bef2 b a = false) → CF L out q
  | [], _, _, _, _ => trivial
  | x :: r, out, h1, h2, h3 => by
    have e : out ++ x :: r = (out ++ [x]) ++ r := by simp
    refine ⟨fun y hy hs => ?_, cf_sorted h r (out ++ [x]) (by rwa [← e]) (by rwa [← e]) (by rwa [← e])⟩
    have hx := h1 x (by simp)
    have hm := h2 x (by simp) y hy hs
    rcases List.mem_append.1 hm with hm | hm
    · exact hm
    · rcases List.mem_cons.1 hm with rfl | hm
      · rw [h.irr hx] at hs; cases hs
      · rw [List.pairwise_append, List.pairwise_cons] at h3
        have := h3.2.1.1 y hm
        rw [h.bef hx hy hs] at this
        cases this

/-- what a commit needs and does -/
structure Pays (L : List Cm) (s : List Int) (E : Cm → Nat → Int) (c : Cm) : Prop where
  up : ∀ i, i ≠ c.st.toNat → 0 ≤ E c i
  can : ∀ t : List Int, Good t → s.getD c.st.toNat 0 + sumE E (L.filter (sees2 c)) c.st.toNat ≤ t.getD c.st.toNat 0 → ∃ z, doP t c = some z ∧ ∀ i, z.getD i 0 = t.getD i 0 + E c i

theorem run_causal {L : List Cm} (h : MGood L) {s : List Int} {E : Cm → Nat → Int} (hnd : L.Pairwise (fun x y => x ≠ y)) : ∀ (q out : List Cm) (t : List Int), (∀ x ∈ out ++ q, x ∈ L) → (out ++ q).Pairwise (fun x y => x ≠ y) → (∀ x ∈ out ++ q, Pays L s E x) → (∀ x ∈ out, ∀ y ∈ L, sees2 x y = true → y ∈ out) → CF L out q → Good t → (∀ i, t.getD i 0 = s.getD i 0 + sumE E out i) →
    ∃ z, runL t q = some z ∧ Good z ∧ ∀ i, z.getD i 0 = s.getD i 0 + sumE E (out ++ q) i
  | [], out, t, _, _, _, _, _, hG, ht => ⟨t, rfl, hG, by simpa using ht⟩
  | x :: r, out, t, h1, h2, h3, h4, h5, hG, ht => by
    have e : out ++ x :: r = (out ++ [x]) ++ r := by simp
    have hx := h1 x (by simp)
    have px := h3 x (by simp)
    have hpw := h2
    rw [List.pairwise_append, List.pairwise_cons] at hpw
    obtain ⟨p1, ⟨p2, p3⟩, p4⟩ := hpw
    have hs := sumE_filter (E := E) (p := sees2 x) (i := x.st.toNat) out
    have hsame : sumE E (out.filter (sees2 x)) x.st.toNat = sumE E (L.filter (sees2 x)) x.st.toNat := by
      refine sumE_same (p1.filter _) (hnd.filter _) fun y => ?_
      rw [List.mem_filter, List.mem_filter]
      constructor
      · rintro ⟨a, b⟩; exact ⟨h1 y (by simp [a]), b⟩
      · rintro ⟨a, b⟩; exact ⟨h5.1 y a b, b⟩
    have hpos : 0 ≤ sumE E (out.filter fun y => !sees2 x y) x.st.toNat := by
      refine sumE_pos fun y hy => ?_
      rw [List.mem_filter] at hy
      obtain ⟨hy1, hy2⟩ := hy
      have hyL := h1 y (by simp [hy1])
      refine (h3 y (by simp [hy1])).up _ fun e2 => ?_
      have g1 : 0 ≤ x.st := (h.coms hx).s0
      have g2 : 0 ≤ y.st := (h.coms hyL).s0
      have hne : y ≠ x := p4 y hy1 x (by simp)
      rcases h.same hx hyL (by omega) hne with hs | hs
      · rw [hs] at hy2; cases hy2
      · exact p4 x (h4 y hy1 x hx hs) x (by simp) rfl
    obtain ⟨y, hy, hyi⟩ := px.can t hG (by have := ht x.st.toNat; omega)
    have hyG := (doP_some hy).2.2.2.2
    obtain ⟨z, g1, g2, g3⟩ := run_causal h hnd r (out ++ [x]) y (by rwa [← e]) (by rwa [← e]) (by rwa [← e]) (fun a ha b hb hab => by
      rcases List.mem_append.1 ha with ha | ha
      · exact List.mem_append_left _ (h4 a ha b hb hab)
      · rw [List.mem_singleton.1 ha] at hab
        exact List.mem_append_left _ (h5.1 b hb hab)) h5.2 hyG fun i => by rw [hyi, ht, sumE_app, sumE_cons]; simp [sumE]; omega
    refine ⟨z, by rw [runL, hy]; exact g1, g2, fun i => ?_⟩
    rw [e]; exact g3 i
end Go.Abs
/- Chapter 23: the reference's commits, with operations of bytes. -/
set_option linter.unusedSimpArgs false
set_option linter.unusedVariables false
namespace Go.Abs
open Go

def toCm (c : Com) : Cm := ⟨c.st, c.seq, c.pf, c.past, c.ver, .nil, []⟩
theorem heads_nils : ∀ (l : List Nat) (x : HS), (∀ c ∈ x.out, c.ops = .nils) → ∀ c ∈ (l.foldl hstep x).out, c.ops = .nils
  | [], x, h => h
  | n :: l, x, h => by
    rw [List.foldl_cons]
    refine heads_nils l _ fun c hc => ?_
    simp only [hstep, hnext, List.mem_append, List.mem_singleton] at hc
    rcases hc with hc | rfl
    · exact h c hc
    · rfl
theorem heads_M (b : List Nat) : coms .lst (headers b) = cms .lst ((headers b).map toCm) := by
  have h : ∀ c ∈ headers b, c.ops = .nils := heads_nils _ _ (by simp)
  unfold coms cms
  rw [List.map_map]
  congr 1
  refine List.map_congr_left fun c hc => ?_
  simp only [Function.comp, encC, encM, cellsM, toCm, h c hc]
  rfl

theorem withC_ops (i : Nat) (b : List Tri) (c : Cm) : (withC i b c).ops.length ≤ c.ops.length + 2 := by
  have : ∀ (l : List Tri) (c : Cm), (l.foldl stepW c).ops.length ≤ c.ops.length + l.length := by
    intro l
    induction l with
    | nil => intro c; simp
    | cons t l ih =>
      intro c
      have h1 := ih (stepW c t)
      have h2 := stepW_ops c t
      simp only [List.foldl_cons, List.length_cons]
      omega
  have h := this ((b.drop (2 * i)).take 2) c
  have h2 : ((b.drop (2 * i)).take 2).length ≤ 2 := List.length_take_le ..
  unfold withC
  omega
theorem withL_ops {m : Nat} : ∀ (l : List Cm) (i : Nat) (b : List Tri), (∀ c ∈ l, c.ops.length ≤ m) → ∀ c ∈ withL i b l, c.ops.length ≤ m + 2
  | [], i, b, _, c, hc => by simp [withL] at hc
  | x :: l, i, b, h, c, hc => by
    simp only [withL, List.mem_cons] at hc
    rcases hc with rfl | hc
    · have := withC_ops i b x; have := h x (by simp); omega
    · exact withL_ops l (i + 1) b (fun c hc => h c (by simp [hc])) c hc
end Go.Abs
/- Chapter 23: the commits of which each is covered make a consistent list. -/
set_option linter.unusedSimpArgs false
set_option linter.unusedVariables false
namespace Go.Abs
open Go

def sk (c : Com) : Int × Int × List Int := (c.st, c.seq, c.past)
def skM (c : Cm) : Int × Int × List Int := (c.st, c.seq, c.past)

/-- each commit is behind those that it has seen -/
def IInv (l : List Com) : Prop := ∀ (i j : Nat) (hi : i < l.length) (hj : j < l.length), sees l[i] l[j] = true → j < i

theorem sk_get {l l' : List Com} (h : l.map sk = l'.map sk) {i : Nat} (hi : i < l.length) : ∃ hi' : i < l'.length, l'[i].st = l[i].st ∧ l'[i].seq = l[i].seq ∧ l'[i].past = l[i].past := by
  have hl : l.length = l'.length := by have := congrArg List.length h; simpa using this
  have hi' : i < l'.length := by omega
  refine ⟨hi', ?_⟩
  have h1 : (l.map sk)[i]? = (l'.map sk)[i]? := by rw [h]
  rw [List.getElem?_map, List.getElem?_map, List.getElem?_eq_getElem hi, List.getElem?_eq_getElem hi', Option.map_some, Option.map_some, Option.some.injEq] at h1
  simp only [sk, Prod.mk.injEq] at h1
  exact ⟨h1.1.symm, h1.2.1.symm, h1.2.2.symm⟩
theorem sk_mem {l l' : List Com} (h : l.map sk = l'.map sk) {c : Com} (hc : c ∈ l) : ∃ d ∈ l', d.st = c.st ∧ d.seq = c.seq ∧ d.past = c.past := by
  obtain ⟨i, hi, rfl⟩ := List.getElem_of_mem hc
  obtain ⟨hi', h1⟩ := sk_get h hi
  exact ⟨_, List.getElem_mem hi', h1⟩
theorem lgood_sk {l l' : List Com} (h : l.map sk = l'.map sk) (g : LGood l) : LGood l' where
  coms c hc := by
    obtain ⟨d, hd, e1, e2, e3⟩ := sk_mem h.symm hc
    have gd := g.coms d hd
    refine ⟨?_, ?_, ?_, ?_, ?_, ?_⟩
    · rw [← e1]; exact gd.s0
    · rw [← e1]; exact gd.s3
    · rw [← e3]; exact gd.len
    · rw [← e3]; exact gd.row
    · rw [← e1, ← e2, ← e3]; exact gd.seq
    · rw [← e3]
      intro t q h1 h2
      obtain ⟨f, hf, k1, k2, k3⟩ := gd.clo t q h1 h2
      obtain ⟨f', hf', m1, m2, m3⟩ := sk_mem h hf
      refine ⟨f', hf', m1.trans k1, m2.trans k2, ?_⟩
      unfold own at k3 ⊢
      rw [m1, m2, m3]; exact k3
  nd := by
    have h1 : (l.map sk).Pairwise fun a b => ¬ (a.1 = b.1 ∧ a.2.1 = b.2.1) := by
      rw [List.pairwise_map]; exact g.nd
    rw [h, List.pairwise_map] at h1
    exact h1
theorem sees_sk {c d c' d' : Com} (h1 : c'.st = c.st) (h2 : c'.seq = c.seq) (h3 : c'.past = c.past) (h4 : d'.st = d.st) (h5 : d'.seq = d.seq) (h6 : d'.past = d.past) : sees c' d' = sees c d := by
  unfold sees wf
  rw [h1, h2, h3, h4, h5, h6]
theorem iinv_sk {l l' : List Com} (h : l.map sk = l'.map sk) (g : IInv l) : IInv l' := by
  intro i j hi hj hs
  obtain ⟨hi', a1, a2, a3⟩ := sk_get h.symm hi
  obtain ⟨hj', b1, b2, b3⟩ := sk_get h.symm hj
  refine g i j hi' hj' ?_
  rwa [sees_sk a1 a2 a3 b1 b2 b3]

theorem iinv_next {x : HS} (h : HGood x) {s t u : Nat} (h' : HGood (hnext x s t u)) (g : IInv x.out) : IInv (hnext x s t u).out := by
  obtain ⟨c, hc⟩ : ∃ c, hcom (hjoin x.K s t u) s = c := ⟨_, rfl⟩
  have ho : (hnext x s t u).out = x.out ++ [c] := by rw [← hc]; rfl
  have nd := h'.nd
  have gl : LGood (x.out ++ [c]) := ⟨by rw [← ho]; exact h'.coms, by rw [← ho]; exact h'.nd⟩
  rw [ho] at nd ⊢
  rw [List.pairwise_append] at nd
  intro i j hi hj hs
  rw [List.length_append, List.length_singleton] at hi hj
  have hmi := List.getElem_mem (l := x.out ++ [c]) (n := i) (by simp; omega)
  have hmj := List.getElem_mem (l := x.out ++ [c]) (n := j) (by simp; omega)
  by_cases e1 : i < x.out.length
  · by_cases e2 : j < x.out.length
    · rw [List.getElem_append_left e1, List.getElem_append_left e2] at hs
      exact g i j e1 e2 hs
    · exfalso
      have e3 : (x.out ++ [c])[j]'(by simp; omega) = c := by
        rw [List.getElem_append_right (by omega)]; simp
      rw [sees_iff gl hmi hmj, e3, List.getElem_append_left e1] at hs
      have gi := h.coms _ (List.getElem_mem e1)
      have gc := gl.coms c (by simp)
      have hq := gc.seq
      have hp := gc.pst
      have h0 := gc.s0
      obtain ⟨d, hd, k1, k2, _⟩ := gi.clo c.st.toNat c.seq (by omega) hs
      exact nd.2.2 d hd c (by simp) ⟨by omega, k2⟩
  · by_cases e2 : j < x.out.length
    · omega
    · exfalso
      obtain rfl : i = j := by omega
      have := sees_sum gl hmi hmj hs
      omega
theorem headers_iinv (b : List Nat) : IInv (headers b) := by
  have key : ∀ (l : List Nat) (x : HS), HGood x → IInv x.out → x.out.length + l.length ≤ 12 → IInv (l.foldl hstep x).out := by
    intro l
    induction l with
    | nil => intro x h g _; exact g
    | cons a l ih =>
      intro x h g hn
      simp only [List.length_cons] at hn
      rw [List.foldl_cons]
      have h' := h.next (s := a % 3) (t := a / 3 % 3) (u := a / 9 % 3) (by omega) (Nat.mod_lt _ (by decide)) (Nat.mod_lt _ (by decide))
      exact ih _ h' (iinv_next h h' g) (by simp only [hstep, hnext, List.length_append, List.length_singleton]; omega)
  refine key _ _ ⟨⟨rfl, by decide⟩, fun R hR => ?_, fun c hc => by simp at hc, fun c hc => by simp at hc, List.Pairwise.nil⟩ (fun i j hi => by simp at hi) (by simp; omega)
  intro t q h1 h2
  have : R = zeros := by simpa using hR
  subst this
  have : (zeros : List Int).getD t 0 = 0 := by
    match t with
    | 0 | 1 | 2 | 3 | 4 | 5 => rfl
    | t + 6 => rfl
  omega

theorem stepW_sk (c : Cm) (t : Tri) : skM (stepW c t) = skM c := by
  unfold stepW skM
  split <;> rfl
theorem withC_sk (i : Nat) (b : List Tri) (c : Cm) : skM (withC i b c) = skM c := by
  have : ∀ (l : List Tri) (c : Cm), skM (l.foldl stepW c) = skM c := by
    intro l
    induction l with
    | nil => intro c; rfl
    | cons t l ih => intro c; rw [List.foldl_cons, ih, stepW_sk]
  exact this _ _
theorem withL_sk : ∀ (l : List Cm) (i : Nat) (b : List Tri), (withL i b l).map skM = l.map skM
  | [], _, _ => rfl
  | c :: r, i, b => by rw [withL, List.map_cons, List.map_cons, withC_sk, withL_sk r]
theorem keptC_sk (s : List Int) (X : List Cm) (c : Cm) : skM (keptC s X c) = skM c := by
  unfold keptC bare skM
  split <;> rfl
theorem keptL_sk (s : List Int) : ∀ (r X : List Cm), (keptL s X r).map skM = (X ++ r).map skM
  | [], X => by rw [keptL, List.append_nil]
  | c :: r, X => by
    rw [keptL, keptL_sk s r]
    simp only [List.map_append, List.map_cons, List.map_nil, keptC_sk, List.append_assoc, List.singleton_append]

theorem kept_sk (s : List Int) (b : List Tri) (hs : List Com) : ((keptL s [] (withL 0 b (hs.map toCm))).map Cm.com).map sk = hs.map sk := by
  have e : ∀ l : List Cm, (l.map Cm.com).map sk = l.map skM := fun l => by rw [List.map_map]; rfl
  rw [e, keptL_sk, List.nil_append, withL_sk, ← e, List.map_map, List.map_map]
  rfl

/-! ### Each is covered -/
theorem play_good : ∀ {l : List Cm} {s : List Int}, Good s → Good (playL s l).1
  | [], s, h => h
  | c :: r, s, h => by
    rw [playL]
    cases hp : doP s c with
    | none => exact play_good h
    | some y => exact play_good (doP_some hp).2.2.2.2
theorem cov_bare {s : List Int} (hs : Good s) {X : List Cm} {c : Cm} (h0 : 0 ≤ c.st) (h1 : c.st < 6) : covP s X (bare c) = true := by
  unfold covP
  have e : stP s = s := by unfold stP; rw [if_pos (svalid_good.2 hs)]
  rw [e]
  have hg := play_good (l := seenP X (bare c)) hs
  have : doP (playL s (seenP X (bare c))).1 (bare c) = some (playL s (seenP X (bare c))).1 := by
    unfold doP
    rw [svalid_good.2 hg, if_pos (by simp [bare, h0, h1])]
    rfl
  rw [this]; rfl
theorem cov_kept {s : List Int} (hs : Good s) {X : List Cm} {c : Cm} (h0 : 0 ≤ c.st) (h1 : c.st < 6) : covP s X (keptC s X c) = true := by
  unfold keptC
  split
  · rename_i h; exact h
  · exact cov_bare hs h0 h1
def KInv (s : List Int) (X : List Cm) : Prop := ∀ (i : Nat) (h : i < X.length), covP s (X.take i) X[i] = true
theorem keptL_cov {s : List Int} (hs : Good s) : ∀ (r X : List Cm), KInv s X → (∀ c ∈ r, 0 ≤ c.st ∧ c.st < 6) → KInv s (keptL s X r)
  | [], X, h, _ => h
  | c :: r, X, h, hr => by
    rw [keptL]
    refine keptL_cov hs r _ ?_ fun c hc => hr c (by simp [hc])
    intro i hi
    rw [List.length_append, List.length_singleton] at hi
    by_cases e : i < X.length
    · rw [List.getElem_append_left e, List.take_append_of_le_length (by omega)]
      exact h i e
    · obtain rfl : i = X.length := by omega
      rw [List.getElem_append_right (by omega), List.take_left]
      simp only [Nat.sub_self, List.getElem_cons_zero]
      exact cov_kept hs (hr c (by simp)).1 (hr c (by simp)).2

theorem MGood.ne {l : List Cm} (h : MGood l) : l.Pairwise (fun x y => x ≠ y) := by
  have := h.nd
  rw [List.pairwise_map] at this
  exact this.imp fun {a b} n e => n (by rw [e]; exact ⟨rfl, rfl⟩)

/-- the whole list covers as well as what is ahead -/
theorem cov_full {s : List Int} {l : List Cm} (h : MGood l) (hi : IInv (l.map Cm.com)) (hk : KInv s l) {c : Cm} (hc : c ∈ l) : covP s l c = true := by
  obtain ⟨i, hl, rfl⟩ := List.getElem_of_mem hc
  have := hk i hl
  have e : (l.take i).filter (sees2 l[i]) = l.filter (sees2 l[i]) := by
    have hsp : l.filter (sees2 l[i]) = (l.take i).filter (sees2 l[i]) ++ (l.drop i).filter (sees2 l[i]) := by
      rw [← List.filter_append, List.take_append_drop]
    rw [hsp]
    have : (l.drop i).filter (sees2 l[i]) = [] := by
      rw [List.filter_eq_nil_iff]
      intro y hy hs
      obtain ⟨j, hj, rfl⟩ := List.getElem_of_mem hy
      rw [List.length_drop] at hj
      rw [List.getElem_drop] at hs
      have := hi i (i + j) (by simpa using hl) (by simp; omega) (by simpa [sees2] using hs)
      omega
    rw [this, List.append_nil]
  unfold covP seenP at this ⊢
  rwa [e] at this

/-! ### What each needs, and does -/
def effOf (s : List Int) (L : List Cm) (c : Cm) (i : Nat) : Int := match doP (playL s (seenP L c)).1 c with
  | some y => y.getD i 0 - (playL s (seenP L c)).1.getD i 0
  | none => 0

theorem bef_ord {L : List Cm} (h : MGood L) : Ord3 bef2 (fun c => c ∈ L) := by
  have o := cmp_ord h
  have e : ∀ a b, a ∈ L → b ∈ L → bef2 a b = decide (cmpC a.com b.com < 0) := fun a b ha hb => before_iff h (MGood.memc ha) (MGood.memc hb)
  refine ⟨fun a b ha hb hab => ?_, fun a b c ha hb hc h1 h2 => ?_⟩
  · rw [e a b ha hb] at hab
    rw [e b a hb ha]
    exact o.asym _ _ (MGood.memc ha) (MGood.memc hb) hab
  · rw [e a b ha hb] at h1
    rw [e b c hb hc] at h2
    rw [e a c ha hc]
    exact o.trans _ _ _ (MGood.memc ha) (MGood.memc hb) (MGood.memc hc) h1 h2

theorem pays_all {s : List Int} (hs : Good s) {L : List Cm} (h : MGood L) (hcov : ∀ c ∈ L, covP s L c = true) : ∀ n : Nat, ∀ c ∈ L, sumW c.past < n → Pays L s (effOf s L) c
  | 0, c, hc, hn => by
    exfalso
    have g := h.coms hc
    have := sumW_eq g.len g.row
    have h2 : (0 : Int) ≤ c.past.sum := by
      have : ∀ l : List Int, (∀ x ∈ l, 0 ≤ x) → 0 ≤ l.sum := by
        intro l
        induction l with
        | nil => intro _; exact Int.le_refl _
        | cons a l ih => intro hl; rw [List.sum_cons]; have := hl a (by simp); have := ih fun x hx => hl x (by simp [hx]); omega
      exact this _ fun x hx => (g.row x hx).1
    have e : c.com.past = c.past := rfl
    rw [e] at this
    omega
  | n + 1, c, hc, hn => by
    have hsub : ∀ x ∈ seenP L c, x ∈ L ∧ sees2 c x = true := fun x hx => List.mem_filter.1 ((isort_mem bef2).1 hx)
    have hmem : ∀ x, x ∈ L → sees2 c x = true → x ∈ seenP L c := fun x h1 h2 => (isort_mem bef2).2 (List.mem_filter.2 ⟨h1, h2⟩)
    have hne : (seenP L c).Pairwise (fun x y => x ≠ y) := ((isort_perm bef2 (L.filter (sees2 c))).pairwise_iff (R := fun x y => x ≠ y) (fun h e => h e.symm)).2 (h.ne.filter _)
    have hsrt : (seenP L c).Pairwise (fun a b => bef2 b a = false) := isort_sorted (bef_ord h) fun y hy => (List.mem_filter.1 hy).1
    have hp : ∀ x ∈ seenP L c, Pays L s (effOf s L) x := fun x hx => by
      obtain ⟨a, b⟩ := hsub x hx
      refine pays_all hs h hcov n x a ?_
      have : sumW x.com.past < sumW c.com.past := sees_sum h (MGood.memc hc) (MGood.memc a) b
      have e1 : c.com.past = c.past := rfl
      have e2 : x.com.past = x.past := rfl
      rw [e1, e2] at this
      omega
    obtain ⟨z, h1, h2, h3⟩ := run_causal h h.ne (seenP L c) [] s (fun x hx => (hsub x hx).1) hne hp (by simp)
      (cf_sorted h _ [] (fun x hx => (hsub x hx).1) (fun x hx y hy hxy => hmem y hy (h.trans hc (hsub x hx).1 hy (hsub x hx).2 hxy)) hsrt) hs (fun i => by simp [sumE])
    have hpl := play_run h1
    have hc1 := hcov c hc
    unfold covP at hc1
    have est : stP s = s := by unfold stP; rw [if_pos (svalid_good.2 hs)]
    rw [est, hpl] at hc1
    obtain ⟨y, hy⟩ := Option.isSome_iff_exists.1 hc1
    obtain ⟨_, _, _, hop, hyG⟩ := doP_some hy
    have hE : ∀ i, effOf s L c i = y.getD i 0 - z.getD i 0 := fun i => by unfold effOf; rw [hpl, hy]
    have hsum : sumE (effOf s L) (seenP L c) c.st.toNat = sumE (effOf s L) (L.filter (sees2 c)) c.st.toNat :=
      sumE_same hne (h.ne.filter _) fun x => isort_mem bef2
    refine ⟨fun i hi => ?_, fun t ht hle => ?_⟩
    · have := (opsP_up h2.len hop).2 i hi
      rw [hE]; omega
    · have h4 := h3 c.st.toNat
      rw [List.nil_append, hsum] at h4
      obtain ⟨w, k1, k2⟩ := opsP_far h2.len ht.len (by omega) hop
      have g := h.coms hc
      have g0 : 0 ≤ c.st := g.s0
      have g3 : c.st < 3 := g.s3
      refine ⟨w, ?_, fun i => ?_⟩
      · unfold doP
        rw [if_pos (by simp [svalid_good.2 ht, g0]; omega)]
        exact k1
      · rw [hE]
        have := k2.eq i
        omega
end Go.Abs
/- Chapter 23: the theorem of promises: plays of a closed cut. -/
set_option linter.unusedSimpArgs false
set_option linter.unusedVariables false
namespace Go.Abs
open Go

theorem freeF_in (left : List Cm) : ∀ (r : List Cm) (i j : Nat) (h : j < r.length), left.all (fun x => !sees2 r[j] x) = true → i + j ∈ freeF left i r
  | [], _, _, h, _ => by simp at h
  | c :: r, i, j, h, ha => by
    unfold freeF
    match j, h, ha with
    | 0, h, ha =>
      rw [if_pos (by simpa using ha)]
      simp
    | j + 1, h, ha =>
      have := freeF_in left r (i + 1) j (by simpa using h) (by simpa using ha)
      rw [show i + 1 + j = i + (j + 1) by omega] at this
      split
      · exact List.mem_cons_of_mem _ this
      · exact this

theorem exists_min {α : Type} (f : α → Int) : ∀ {l : List α}, l ≠ [] → ∃ c ∈ l, ∀ y ∈ l, f c ≤ f y
  | [], h => absurd rfl h
  | [c], _ => ⟨c, by simp, fun y hy => by rw [List.mem_singleton.1 hy]; exact Int.le_refl _⟩
  | c :: d :: l, _ => by
    obtain ⟨m, hm, h⟩ := exists_min f (l := d :: l) (by simp)
    by_cases hc : f c ≤ f m
    · refine ⟨c, by simp, fun y hy => ?_⟩
      rcases List.mem_cons.1 hy with rfl | hy
      · exact Int.le_refl _
      · exact Int.le_trans hc (h y hy)
    · refine ⟨m, List.mem_cons_of_mem _ hm, fun y hy => ?_⟩
      rcases List.mem_cons.1 hy with rfl | hy
      · omega
      · exact h y hy

theorem causal_ok {L : List Cm} (h : MGood L) (b : List Nat) : ∀ (m : Nat) (left out : List Cm), left.length = m → (out ++ left).Pairwise (fun x y => x ≠ y) → (∀ x ∈ out ++ left, x ∈ L) → (∀ x ∈ out ++ left, ∀ y ∈ L, sees2 x y = true → y ∈ out ++ left) →
    ∃ r, causalL b m out left = some (out ++ r) ∧ CF L out r ∧ (∀ x, x ∈ r ↔ x ∈ left) ∧ (out ++ r).Pairwise (fun x y => x ≠ y)
  | 0, left, out, hm, h1, _, _ => by
    obtain rfl := List.eq_nil_of_length_eq_zero hm
    exact ⟨[], by simp [causalL], trivial, fun x => Iff.rfl, h1⟩
  | m + 1, left, out, hm, h1, h2, h3 => by
    have hz : ¬ (freeF left 0 left).length = 0 := by
      intro e
      obtain ⟨c, hc, hmin⟩ := exists_min (fun c : Cm => sumW c.past) (l := left) (by intro e; rw [e] at hm; simp at hm)
      obtain ⟨i, hi, rfl⟩ := List.getElem_of_mem hc
      have := freeF_in left left 0 i hi (by
        rw [List.all_eq_true]
        intro y hy
        cases hs : sees2 left[i] y with
        | false => rfl
        | true =>
          have g1 : sumW y.past < sumW left[i].past := sees_sum h (MGood.memc (h2 _ (List.mem_append_right _ hc))) (MGood.memc (h2 y (List.mem_append_right _ hy))) hs
          have g2 : sumW left[i].past ≤ sumW y.past := hmin y hy
          omega)
      rw [List.eq_nil_of_length_eq_zero e] at this
      simp at this
    have hpm := pickN_mem b out.length hz
    obtain ⟨_, hpl, hfree⟩ := freeF_mem left left 0 _ hpm
    unfold causalL
    rw [if_neg hz]
    generalize pickN b out.length (freeF left 0 left) = a at hpm hpl hfree ⊢
    simp only [Nat.sub_zero] at hpl hfree
    rw [List.all_eq_true] at hfree
    have e1 : (left.drop a).take 1 = [left[a]] := by rw [List.drop_eq_getElem_cons hpl, List.take_succ_cons, List.take_zero]
    have e2 : left = left.take a ++ left[a] :: left.drop (a + 1) := by
      conv => lhs; rw [← List.take_append_drop a left, List.drop_eq_getElem_cons hpl]
    rw [e1]
    have hperm : (left[a] :: (left.take a ++ left.drop (a + 1))).Perm left := by
      have := List.perm_middle (a := left[a]) (l₁ := left.take a) (l₂ := left.drop (a + 1))
      rw [← e2] at this
      exact this.symm
    have hperm2 : ((out ++ [left[a]]) ++ (left.take a ++ left.drop (a + 1))).Perm (out ++ left) := by
      rw [List.append_assoc]
      exact hperm.append_left out
    obtain ⟨r, k1, k2, k3, k4⟩ := causal_ok h b m (left.take a ++ left.drop (a + 1)) (out ++ [left[a]]) (by have := hperm.length_eq; simp only [List.length_cons] at this; omega)
      ((hperm2.pairwise_iff (R := fun x y => x ≠ y) (fun h e => h e.symm)).2 h1) (fun x hx => h2 x (hperm2.mem_iff.1 hx)) (fun x hx y hy hs => hperm2.mem_iff.2 (h3 x (hperm2.mem_iff.1 hx) y hy hs))
    refine ⟨left[a] :: r, by rw [k1]; simp, ⟨fun y hy hs => ?_, k2⟩, fun x => ?_, by simpa using k4⟩
    · have hm2 := List.getElem_mem hpl
      rcases List.mem_append.1 (h3 left[a] (List.mem_append_right _ hm2) y hy hs) with g | g
      · exact g
      · have := hfree y g
        rw [hs] at this; cases this
    · rw [List.mem_cons, k3, ← hperm.mem_iff, List.mem_cons]

/-! ### Sums -/
theorem opsP_sum {st : Int} : ∀ {l : List Opr} {x y : List Int}, Good x → opsP st l x = some y → y.sum ≤ x.sum
  | [], x, y, _, h => by cases h; exact Int.le_refl _
  | o :: r, x, y, hx, h => by
    simp only [opsP, Option.bind_eq_some_iff] at h
    obtain ⟨z, h1, h2⟩ := h
    have hz := opP_good hx h1
    have := opsP_sum hz h2
    have h3 : z.sum ≤ x.sum := by
      unfold opP at h1
      split at h1
      · split at h1
        · have := takeP_sum hx h1; have := (takeP_some h1).2.2.1; omega
        · split at h1
          · have := grantP_sum hx h1; omega
          · cases h1
      · cases h1
    omega
theorem runL_sum : ∀ {q : List Cm} {s z : List Int}, Good s → runL s q = some z → z.sum ≤ s.sum
  | [], s, z, _, h => by cases h; exact Int.le_refl _
  | c :: r, s, z, hs, h => by
    simp only [runL, Option.bind_eq_some_iff] at h
    obtain ⟨y, h1, h2⟩ := h
    obtain ⟨_, _, _, h3, h4⟩ := doP_some h1
    have := opsP_sum hs h3
    have := runL_sum h4 h2
    omega

/-! ### The closed cut -/
def dflt : Cm := ⟨0, 0, .nil, [], 0, .nil, []⟩
def atI (l : List Cm) (x : Int) : Cm := l.getD x.toNat dflt
def fixedL (l : List Cm) (c : List Int) : List Cm := (isort (ixR (l.map Cm.com)) (rows (l.map Cm.com) c 0 6)).map (atI l)
def insideL (l : List Cm) (c : List Int) : List Cm := l.filter fun e => has c ⟨e.st, e.seq⟩

theorem atI_com {l : List Cm} {x : Int} (h : isIx (l.map Cm.com) x) : (atI l x).com = comAt (l.map Cm.com) x ∧ atI l x ∈ l := by
  obtain ⟨i, rfl, hi⟩ := h
  rw [comAt_get hi]
  rw [List.length_map] at hi
  have : atI l (i : Int) = l[i] := by unfold atI; rw [Int.toNat_natCast, List.getD_eq_getElem?_getD, List.getElem?_eq_getElem hi]; rfl
  rw [this, List.getElem_map]
  exact ⟨rfl, List.getElem_mem hi⟩

structure FixOk (l : List Cm) (c : List Int) (q : List Cm) : Prop where
  mem : ∀ e, e ∈ q ↔ e ∈ l ∧ has c ⟨e.st, e.seq⟩ = true
  srt : q.Pairwise (fun a b => bef2 b a = false)
  ne : q.Pairwise (fun a b => a ≠ b)

theorem fixed_ok {l : List Cm} (h : MGood l) {c : List Int} (hv : valid c = true) (hc : Clo (l.map Cm.com) c) : FixOk l c (fixedL l c) := by
  obtain ⟨hix, ho⟩ := order_ok (l := l.map Cm.com) (l' := l.map Cm.com) ⟨h, fun c => Iff.rfl⟩ hv hc
  have hin : ∀ x ∈ isort (ixR (l.map Cm.com)) (rows (l.map Cm.com) c 0 6), isIx (l.map Cm.com) x := fun x hx => hix x ((isort_mem _).1 hx)
  have hmem : ∀ e, e ∈ fixedL l c ↔ e ∈ l ∧ has c ⟨e.st, e.seq⟩ = true := by
    intro e
    unfold fixedL
    rw [List.mem_map]
    constructor
    · rintro ⟨x, hx, rfl⟩
      obtain ⟨h1, h2⟩ := atI_com (hin x hx)
      refine ⟨h2, ?_⟩
      have := (ho.mem (comAt (l.map Cm.com) x)).1 (List.mem_map_of_mem hx)
      rw [← h1] at this
      exact this.2
    · rintro ⟨h1, h2⟩
      obtain ⟨x, hx, hxe⟩ := List.mem_map.1 ((ho.mem e.com).2 ⟨MGood.memc h1, h2⟩)
      obtain ⟨g1, g2⟩ := atI_com (hin x hx)
      rw [hxe] at g1
      exact ⟨x, hx, h.eq g2 h1 (congrArg Com.st g1) (congrArg Com.seq g1)⟩
  have hpw : (fixedL l c).Pairwise (fun a b => decide (cmpC a.com b.com < 0) = true) := by
    have := ho.srt
    unfold orderC at this
    rw [List.pairwise_map] at this
    unfold fixedL
    rw [List.pairwise_map]
    refine this.imp_of_mem fun {a b} ha hb hab => ?_
    rw [(atI_com (hin a ha)).1, (atI_com (hin b hb)).1]
    exact hab
  refine ⟨hmem, ?_, ?_⟩
  · refine hpw.imp_of_mem fun {a b} ha hb hab => ?_
    have ha := ((hmem a).1 ha).1
    have hb := ((hmem b).1 hb).1
    unfold bef2
    rw [before_iff h (MGood.memc hb) (MGood.memc ha)]
    exact (cmp_ord h).asym _ _ (MGood.memc ha) (MGood.memc hb) hab
  · refine hpw.imp_of_mem fun {a b} ha hb hab e => ?_
    have ha := ((hmem a).1 ha).1
    subst e
    have := (cmp_ord h).asym _ _ (MGood.memc ha) (MGood.memc ha) hab
    rw [hab] at this; cases this

theorem inside_past {l : List Cm} (h : MGood l) {c : List Int} (hv : valid c = true) (hc : Clo (l.map Cm.com) c) {x y : Cm} (hx : x ∈ l) (hy : y ∈ l) (hh : has c ⟨x.st, x.seq⟩ = true) (hs : sees2 x y = true) : has c ⟨y.st, y.seq⟩ = true := by
  have h1 : le (own x.com) c := (has_own h hv hc (MGood.memc hx)).1 hh
  have h2 := sees_le h (MGood.memc hx) (MGood.memc hy) hs
  have h3 := past_le_own (h.coms hx)
  exact (has_own h hv hc (MGood.memc hy)).2 fun t => Int.le_trans (h2 t) (Int.le_trans (h3 t) (h1 t))

/-- THE THEOREM OF PROMISES. -/
theorem promises {s : List Int} (hs : Good s) {l : List Cm} (h : MGood l) (hcov : ∀ c ∈ l, covP s l c = true) {c : List Int} (hv : valid c = true) (hc : Clo (l.map Cm.com) c) (b : List Nat) :
    ∃ o z, causalL b (insideL l c).length [] (insideL l c) = some o ∧ o.length = (insideL l c).length ∧ (fixedL l c).length = (insideL l c).length ∧ runL s (fixedL l c) = some z ∧ runL s o = some z ∧ Good z ∧ z.sum ≤ s.sum ∧ ∀ e ∈ o, e ∈ l := by
  have F := fixed_ok h hv hc
  have im : ∀ e, e ∈ insideL l c ↔ e ∈ l ∧ has c ⟨e.st, e.seq⟩ = true := fun e => List.mem_filter
  have ine : (insideL l c).Pairwise (fun x y => x ≠ y) := h.ne.filter _
  obtain ⟨o, k1, k2, k3, k4⟩ := causal_ok h b (insideL l c).length (insideL l c) [] rfl ine (fun x hx => ((im x).1 hx).1) (fun x hx y hy hxy => (im y).2 ⟨hy, inside_past h hv hc ((im x).1 hx).1 hy ((im x).1 hx).2 hxy⟩)
  rw [List.nil_append] at k1 k4
  have pays : ∀ x ∈ l, Pays l s (effOf s l) x := fun x hx => pays_all hs h hcov (sumW x.past + 1).toNat x hx (by omega)
  have om : ∀ x, x ∈ o ↔ x ∈ fixedL l c := fun x => by rw [k3, im, F.mem]
  obtain ⟨z, a1, a2, a3⟩ := run_causal h h.ne (fixedL l c) [] s (fun x hx => ((F.mem x).1 hx).1) F.ne (fun x hx => pays x ((F.mem x).1 hx).1) (by simp)
    (cf_sorted h _ [] (fun x hx => ((F.mem x).1 hx).1) (fun x hx y hy hxy => (F.mem y).2 ⟨hy, inside_past h hv hc ((F.mem x).1 hx).1 hy ((F.mem x).1 hx).2 hxy⟩) F.srt) hs (fun i => by simp [sumE])
  obtain ⟨w, b1, b2, b3⟩ := run_causal h h.ne o [] s (fun x hx => ((F.mem x).1 ((om x).1 hx)).1) k4 (fun x hx => pays x ((F.mem x).1 ((om x).1 hx)).1) (by simp) k2 hs (fun i => by simp [sumE])
  have hzw : w = z := ext6 b2.len a2.len fun i => by
    rw [b3, a3, List.nil_append, List.nil_append, sumE_same k4 F.ne om]
  subst hzw
  have l1 : o.length = (insideL l c).length := Nat.le_antisymm (few_of_nodup k4 fun x hx => (k3 x).1 hx) (few_of_nodup ine fun x hx => (k3 x).2 hx)
  have l2 : (fixedL l c).length = (insideL l c).length := Nat.le_antisymm (few_of_nodup F.ne fun x hx => (im x).2 ((F.mem x).1 hx)) (few_of_nodup ine fun x hx => (F.mem x).2 ((im x).1 hx))
  exact ⟨o, w, k1, l1, l2, a1, b1, a2, runL_sum hs a1, fun e he => ((F.mem e).1 ((om e).1 he)).1⟩
end Go.Abs
/- Chapter 23: the walk of the theorem of promises. -/
set_option linter.unusedSimpArgs false
set_option linter.unusedVariables false
set_option maxRecDepth 100000
set_option maxHeartbeats 4000000
namespace Go.Abs
open Go
attribute [local go_sem_proc] Nat.reduceLT Nat.reduceEqDiff Nat.reduceLeDiff Nat.reduceAdd Nat.reduceSub Nat.reduceMul Int.reduceLT Int.reduceLE Int.reduceEq Int.reduceNeg
attribute [local go_sem_proc ↓] reduceIte

theorem totalP_good2 {x : List Int} (h : Good x) : totalP x = x.sum := by unfold totalP; rw [svalid_good.2 h]; rfl
theorem namesL_mem2 {p : Nat → Bool} : ∀ {xs : List AVal}, AVal.namesL p xs = true → ∀ x ∈ xs, x.names p = true
  | [], _, x, hx => by simp at hx
  | y :: ys, h, x, hx => by
    simp only [AVal.namesL, Bool.and_eq_true] at h
    rcases List.mem_cons.1 hx with rfl | hx
    · exact h.1
    · exact namesL_mem2 h.2 x hx
theorem keptL_ops {s : List Int} {m : Nat} : ∀ (r X : List Cm), (∀ c ∈ X, c.ops.length ≤ m) → (∀ c ∈ r, c.ops.length ≤ m) → ∀ c ∈ keptL s X r, c.ops.length ≤ m
  | [], X, hX, _ => hX
  | c :: r, X, hX, hr => by
    rw [keptL]
    refine keptL_ops r _ (fun d hd => ?_) fun d hd => hr d (by simp [hd])
    rcases List.mem_append.1 hd with h | h
    · exact hX d h
    · rw [List.mem_singleton.1 h]; exact Nat.le_trans (keptC_ops _ _ _) (hr c (by simp))
theorem keptL_len {s : List Int} (r : List Cm) : (keptL s [] r).length = r.length := by
  have := congrArg List.length (keptL_sk s r [])
  simpa using this
theorem cms_com (f : SlF) (l : List Cm) : coms f (l.map Cm.com) = cms f l := by
  unfold coms cms
  rw [List.map_map]
  rfl

theorem pr_b0 {Q : Post3} {K : List Item} {s c idx : List Int} {L : List Cm} {bx : List AVal} (hL : L.length ≤ 100) (h12 : idx.length ≤ 100) (hix : ∀ x ∈ idx, isIx (L.map Cm.com) x) (hbx : AVal.pures bx = true) : ∀ i, i ≤ idx.length →
    Run T Q K (mkE 148 [(5, .ptr 0 3 0), (7, .bool true), (8, ints .lst s), (9, cms .lst L), (10, ints .lst c), (13, .ref 1 (idx.length * 5) 0 idx.length 5), (14, .ref 2 0 0 0 5)]) [.cells false bx, ob (idx.map (atI L)), .cells false []] →
    Run T Q (.inLoop l23_EscrowPromises.b0 :: .inBlock 0 :: .code (.ghost (.kill [11, 15, 49])) :: K) (mkE 148 [(5, .ptr 0 3 0), (7, .bool true), (8, ints .lst s), (9, cms .lst L), (10, ints .lst c), (11, ints .nil idx), (13, .ref 1 (i * 5) 0 i 5), (14, .ref 2 0 0 0 5), (15, .int .i64 i)]) [.cells false bx, ob ((idx.take i).map (atI L)), .cells false []] := by
  refine up_ind ?_ fun i hi ih => ?_
  · intro h
    rw [List.take_length]
    rw [run_round, run_unfold l23_EscrowPromises.b0.eq_1]
    simp (maxSteps := 2000000) only [go_sem, Nat.lt_irrefl]
    exact h
  · intro h
    have hw := wrap_succ (n := i) (by omega)
    have ih := ih h
    obtain ⟨k, hk, hkl⟩ := hix idx[i] (List.getElem_mem hi)
    rw [List.length_map] at hkl
    have hat : atI L idx[i] = L[k] := by
      rw [hk]; unfold atI; rw [Int.toNat_natCast, List.getD_eq_getElem?_getD, List.getElem?_eq_getElem hkl]; rfl
    have htl : ((idx.take i).map (atI L)).length = i := by rw [List.length_map, List.length_take]; omega
    have hts : (idx.take (i + 1)).map (atI L) = (idx.take i).map (atI L) ++ [L[k]] := by
      rw [List.take_succ_eq_append_getElem hi, List.map_append, List.map_cons, List.map_nil, hat]
    rw [hts] at ih
    generalize (idx.take i).map (atI L) = X at htl ih ⊢
    have ha := appendV_struct (X := X) (y := L[k]) (o := 1) (o' := 3) (k := 5) (bytes := 72) (g := cellsM) (σ := [.cells false bx, ob X, .cells false [], .cells false (cellsM L[k])]) (by decide) (fun _ => rfl) cellsM_one rfl rfl (by simp [maxBytes]; omega)
    have hl1 : (X ++ [L[k]]).length = i + 1 := by simp [htl]
    rw [htl] at ha
    have nb : ∀ p : Nat → Bool, AVal.namesL p bx = true := fun p => namesL_memI fun x hx => names_pure _ (namesL_mem2 hbx x hx)
    rw [run_round, run_unfold l23_EscrowPromises.b0.eq_1]
    have hk0 : ¬ (k : Int) < 0 := by omega
    have hk1 : ¬ (k : Int) ≥ (L.length : Int) := by omega
    simp (maxSteps := 2000000) only [go_sem, hi, hk, hkl, hk0, hk1]
    refine after_of ha ?_
    simp (maxSteps := 2000000) only [go_sem, hw, hl1, ob_names, nb, AVal.unders]
    exact ih

theorem pr_b1 {Q : Post3} {K : List Item} {s c : List Int} {L F : List Cm} {bx : List AVal} (hL : L.length ≤ 100) (hbx : AVal.pures bx = true) : ∀ i, i ≤ L.length → ∀ Y : List Cm, Y.length ≤ i →
    Run T Q K (mkE 148 [(5, .ptr 0 3 0), (7, .bool true), (8, ints .lst s), (13, cms .lst F), (14, .ref 2 ((Y ++ insideL (L.drop i) c).length * 5) 0 (Y ++ insideL (L.drop i) c).length 5)]) [.cells false bx, .dead, ob (Y ++ insideL (L.drop i) c)] →
    Run T Q (.inLoop l23_EscrowPromises.b1 :: .inBlock 2 :: .code l23_EscrowPromises.c1 :: K) (mkE 148 [(5, .ptr 0 3 0), (7, .bool true), (8, ints .lst s), (9, cms .lst L), (10, ints .lst c), (13, cms .lst F), (14, .ref 2 (Y.length * 5) 0 Y.length 5), (16, .int .i64 i)]) [.cells false bx, .dead, ob Y] := by
  refine up_ind ?_ fun i hi ih => ?_
  · intro Y hY h
    rw [List.drop_length, insideL, List.filter_nil, List.append_nil] at h
    rw [run_round, run_unfold l23_EscrowPromises.b1.eq_1]
    simp (maxSteps := 2000000) only [go_sem, Nat.lt_irrefl, run_unfold l23_EscrowPromises.c1.eq_1]
    exact h
  · intro Y hY h
    have hw := wrap_succ (n := i) (by omega)
    have nb : ∀ p : Nat → Bool, AVal.namesL p bx = true := fun p => namesL_memI fun x hx => names_pure _ (namesL_mem2 hbx x hx)
    rw [List.drop_eq_getElem_cons hi, insideL, List.filter_cons] at h
    rw [run_round, run_unfold l23_EscrowPromises.b1.eq_1]
    cases hh : has c ⟨L[i].st, L[i].seq⟩ with
    | false =>
      rw [hh] at h
      have := ih Y (by omega) h
      simp (maxSteps := 2000000) only [go_sem, hi, hh, run_unfold l23_EscrowPromises.c2.eq_1, hw, nb, ob_names, AVal.unders]
      exact this
    | true =>
      rw [hh, if_pos rfl] at h
      have hl1 : (Y ++ [L[i]]).length = Y.length + 1 := by simp
      have := ih (Y ++ [L[i]]) (by omega) (by simpa [insideL] using h)
      have ha := appendV_struct (X := Y) (y := L[i]) (o := 2) (o' := 3) (k := 5) (bytes := 72) (g := cellsM) (σ := [.cells false bx, .dead, ob Y, .cells false (cellsM L[i])]) (by decide) (fun _ => rfl) cellsM_one rfl rfl (by simp [maxBytes]; omega)
      simp (maxSteps := 2000000) only [go_sem, hi, hh]
      refine after_of ha ?_
      simp (maxSteps := 2000000) only [go_sem, run_unfold l23_EscrowPromises.c2.eq_1, hw, nb, ob_names, AVal.unders]
      exact this

theorem l23_EscrowPromises_true {f g f0 f1 f2 : SlF} {x k0 k1 k2 : List Nat} {b : List Tri} (hx : Fits x) (hx8 : ∀ n ∈ x, n < 256) (hb : Fits b) (h0 : Fits k0) (h08 : ∀ n ∈ k0, n < 256) (h1 : Fits k1) (h18 : ∀ n ∈ k1, n < 256) (h2 : Fits k2) (h28 : ∀ n ∈ k2, n < 256) {lv : List Nat} {σ : Sto} {R : Post} : Cw T true i_l23_EscrowPromises [bytesV f x, trisV g b, .agg [bytesV f0 k0, bytesV f1 k1, bytesV f2 k2]] lv σ R ↔ R (.bool true) σ := by
  refine cw_intro T_l23_EscrowPromises (by simp only [go_sem]) (by simp) ?_; rw [run_unfold l23_EscrowPromises.main.eq_1]
  have hm := heads_M x
  have hh := headers_fits x
  have hd := fun (Q : Post3) (k' : List Item) (os : List AOper) (d : Option Nat) (e : Env) (σ : Sto) => r20_Headers_call (f := f) (b := x) hx hx8 (Q := Q) (k := k') (os := os) (d := d) (e := e) (σ := σ)
  rw [hm] at hd
  have hop0 : ∀ c ∈ (headers x).map toCm, c.ops.length ≤ 0 := by
    intro c hc
    obtain ⟨d, _, rfl⟩ := List.mem_map.1 hc
    exact Nat.le_refl _
  have hlen : ((headers x).map toCm).length ≤ 12 := by rw [List.length_map]; exact hh
  have hwi := fun (Q : Post3) (k' : List Item) (os : List AOper) (d : Option Nat) (e : Env) (σ : Sto) => r23_With_call (f := .lst) (g := g) (l := (headers x).map toCm) (b := b) (by omega) hb (fun c hc => Nat.le_trans (hop0 c hc) (by omega)) (Q := Q) (k := k') (os := os) (d := d) (e := e) (σ := σ)
  have hop := withL_ops _ 0 b hop0
  have hol : (withL 0 b ((headers x).map toCm)).length ≤ 12 := by rw [withL_len]; exact hlen
  have hs : Good (sharesP k0) := sharesP_good k0
  have hkp := fun (Q : Post3) (k' : List Item) (os : List AOper) (d : Option Nat) (e : Env) (σ : Sto) => l23_kept_call (f := .lst) (g := .lst) (s := sharesP k0) (l := withL 0 b ((headers x).map toCm)) (by omega) (fun c hc => Nat.le_trans (hop c hc) (by omega)) (Q := Q) (k := k') (os := os) (d := d) (e := e) (σ := σ)
  obtain ⟨L, hLe⟩ : ∃ L, keptL (sharesP k0) [] (withL 0 b ((headers x).map toCm)) = L := ⟨_, rfl⟩
  have hsk := kept_sk (sharesP k0) b (headers x)
  have hL12 : L.length ≤ 12 := by rw [← hLe, keptL_len]; exact hol
  have hLo : ∀ c ∈ L, c.ops.length ≤ 2 := by rw [← hLe]; exact keptL_ops _ _ (fun c hc => by simp at hc) hop
  have hG : MGood L := by rw [← hLe]; exact lgood_sk hsk.symm (headers_lgood x)
  have hI : IInv (L.map Cm.com) := by rw [← hLe]; exact iinv_sk hsk.symm (headers_iinv x)
  have hK : KInv (sharesP k0) L := by
    rw [← hLe]
    refine keptL_cov hs _ _ (fun i h => by simp at h) fun c hc => ?_
    have e : ∀ l : List Cm, (l.map Cm.com).map sk = l.map skM := fun l => by rw [List.map_map]; rfl
    have g : MGood (withL 0 b ((headers x).map toCm)) := lgood_sk (l := headers x) (by rw [e, withL_sk, ← e, List.map_map, List.map_map]; rfl) (headers_lgood x)
    have g1 : 0 ≤ c.st := (g.coms hc).s0
    have g2 : c.st < 3 := (g.coms hc).s3
    exact ⟨g1, by omega⟩
  have hcov : ∀ c ∈ L, covP (sharesP k0) L c = true := fun c hc => cov_full hG hI hK hc
  rw [hLe] at hkp
  have hLF : Fits (L.map Cm.com) := by unfold Fits; rw [List.length_map]; omega
  have hcut := fun (Q : Post3) (k' : List Item) (os : List AOper) (d : Option Nat) (e : Env) (σ : Sto) => r20_CutOf_call (f := .lst) (g := f1) (l := L.map Cm.com) (b := k1) hLF h1 (Q := Q) (k := k') (os := os) (d := d) (e := e) (σ := σ)
  obtain ⟨hcl, hv⟩ := cutOfL_closed (L.map Cm.com) k1
  generalize cutOfL (L.map Cm.com) k1 = c at hcut hcl hv
  have hclo : Clo (L.map Cm.com) c := clo_of_closed hG hv hcl
  have hal : Alike (L.map Cm.com) (L.map Cm.com) := ⟨hG, fun c => Iff.rfl⟩
  have hrow : (rows (L.map Cm.com) c 0 6).length ≤ 12 := by
    have := rows_few hal hv hclo
    rw [List.length_map] at this; omega
  have hix := (order_ok hal hv hclo).1
  have hord := fun (Q : Post3) (k' : List Item) (os : List AOper) (d : Option Nat) (e : Env) (σ : Sto) => callK_of (T := T) (Q := Q) (k := k') (os := os) (d := d) (e := e) (σ := σ) (cut_Order_spec (f := .lst) (g := .lst) (l := L.map Cm.com) (c := c) hLF hv (closedP_of hcl) (fun x hx => fits_of_valid (LGood.coms hG x hx).valid) hrow hix)
  rw [cms_com] at hcut hord
  have hidx : ∀ x ∈ isort (ixR (L.map Cm.com)) (rows (L.map Cm.com) c 0 6), isIx (L.map Cm.com) x := fun x hx => hix x ((isort_mem _).1 hx)
  have hidn : (isort (ixR (L.map Cm.com)) (rows (L.map Cm.com) c 0 6)).length ≤ 12 := by rw [isort_len]; exact hrow
  obtain ⟨o, z, p1, p2, p3, p4, p5, p6, p7, p8⟩ := promises hs hG hcov hv hclo k2
  have hfix : (isort (ixR (L.map Cm.com)) (rows (L.map Cm.com) c 0 6)).map (atI L) = fixedL L c := rfl
  generalize isort (ixR (L.map Cm.com)) (rows (L.map Cm.com) c 0 6) = idx at hord hidx hidn hfix
  simp (maxSteps := 2000000) only [go_sem, hd, hwi, h0, hkp, hcut, hord]
  have hb3 : AVal.pures [bytesV f0 k0, bytesV f1 k1, bytesV f2 k2] = true := by simp only [AVal.pures, AVal.namesL, AVal.names, sv_pure, Bool.and_self]
  refine pr_b0 (by omega) (by omega) hidx hb3 0 (by omega) ?_
  rw [hfix]
  simp (maxSteps := 2000000) only [go_sem, run_unfold l23_EscrowPromises.c3.eq_1]
  have hfl : idx.length = (fixedL L c).length := by rw [← hfix, List.length_map]
  rw [hfl]
  refine afterG_of (deep_structs (n := 62) (o := 1) (l := fixedL L c) (g := cellsM) (k := 5) (by decide) (by decide) (fun _ => rfl) cellsM_pureS rfl) ?_
  rw [show AVal.list 5 ((fixedL L c).map fun x => .agg (cellsM x)) = cms .lst (fixedL L c) from (sv_lst _ _).symm]
  simp (maxSteps := 2000000) only [go_sem]
  refine pr_b1 (by omega) hb3 0 (by omega) [] (by simp) ?_
  rw [List.drop_zero, List.nil_append]
  have hF : ∀ e ∈ fixedL L c, e ∈ L := fun e he => (((fixed_ok hG hv hclo).mem e).1 he).1
  have hil : (insideL L c).length ≤ 12 := Nat.le_trans (List.length_filter_le ..) hL12
  have hom : ∀ e ∈ o, e.ops.length ≤ 100 := fun e he => Nat.le_trans (hLo e (p8 e he)) (by omega)
  have hpz : ∀ q, runL (sharesP k0) q = some z → playL (stP (sharesP k0)) q = (z, List.replicate q.length true) := fun q hq => by
    have e : stP (sharesP k0) = sharesP k0 := by unfold stP; rw [if_pos (svalid_good.2 hs)]
    rw [e]; exact play_run hq
  have hpf := fun (Q : Post3) (k' : List Item) (os : List AOper) (d : Option Nat) (e : Env) (σ : Sto) => l23_played_call (f := .lst) (g := .lst) (s := sharesP k0) (l := fixedL L c) (by omega) (fun e he => by have := hLo e (hF e he); unfold Fits; omega) (Q := Q) (k := k') (os := os) (d := d) (e := e) (σ := σ)
  have hpo := fun (Q : Post3) (k' : List Item) (os : List AOper) (d : Option Nat) (e : Env) (σ : Sto) => l23_played_call (f := .lst) (g := .lst) (s := sharesP k0) (l := o) (by omega) (fun e he => by have := hom e he; unfold Fits; omega) (Q := Q) (k := k') (os := os) (d := d) (e := e) (σ := σ)
  have efl : flP (sharesP k0) = .lst := by unfold flP; rw [if_pos (svalid_good.2 hs)]
  rw [hpz _ p4, efl] at hpf
  rw [hpz _ p5, efl] at hpo
  have hzF := p6.fits
  have hall := fun (n : Nat) (hn : n ≤ 100) (Q : Post3) (k' : List Item) (os : List AOper) (d : Option Nat) (e : Env) (σ : Sto) => l23_all_call (f := .lst) (fb := .lst) (s := z) (x := List.replicate n true) (n := (n : Int)) hzF (by rw [List.length_replicate]; omega) (Q := Q) (k := k') (os := os) (d := d) (e := e) (σ := σ)
  have hall2 : ∀ n : Nat, ((List.replicate n true).all id && decide (((List.replicate n true).length : Int) = (n : Int)) && svalid z) = true := fun n => by
    rw [List.length_replicate, svalid_good.2 p6]
    simp
  simp only [hall2] at hall
  rw [p2] at hpo
  rw [p3] at hpf
  have hT : totalP z ≤ totalP (sharesP k0) := by rw [totalP_good2 p6, totalP_good2 hs]; exact p7
  rw [run_unfold l23_EscrowPromises.c0.eq_1]
  simp (maxSteps := 2000000) only [go_sem]
  refine afterG_of (deep_structs (n := 62) (o := 2) (l := insideL L c) (g := cellsM) (k := 5) (by decide) (by decide) (fun _ => rfl) cellsM_pureS rfl) ?_
  rw [show AVal.list 5 ((insideL L c).map fun x => .agg (cellsM x)) = cms .lst (insideL L c) from (sv_lst _ _).symm]
  have hca := fun (Q : Post3) (k' : List Item) (os : List AOper) (d : Option Nat) (e : Env) (σ : Sto) => l23_causal_call (f := .lst) (g := f2) (l := insideL L c) (b := k2) (o := o) h2 h28 (by omega) p1 (Q := Q) (k := k') (os := os) (d := d) (e := e) (σ := σ)
  simp (maxSteps := 2000000) only [go_sem, hca, hpf, hpo, hall _ (show (insideL L c).length ≤ 100 by omega), p2, p3, hzF, hT]
end Go.Abs
