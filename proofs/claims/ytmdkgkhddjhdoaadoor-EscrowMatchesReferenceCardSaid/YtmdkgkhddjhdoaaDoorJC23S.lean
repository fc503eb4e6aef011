/- Parts of the proof: C23S, C23T, C23U, C23V. -/
import Derived.Test.YtmdkgkhddjhdoaaDoorJC23L
import Derived.Test.YtmdkgkhddjhdoaaDoorAbsSort
import Derived.Test.YtmdkgkhddjhdoaaDoorAbsVal2
set_option linter.all false
/- Chapter 23: what the reference has seen, in the fixed order. -/
set_option linter.unusedSimpArgs false
set_option linter.unusedVariables false
set_option maxRecDepth 10000
namespace Go.Abs
open Go

def sees2 (c x : Cm) : Bool := sees c.com x.com
def bef2 (x y : Cm) : Bool := befC x.com y.com
@[go_sem] theorem r20_Sees_M {c a : Cm} {Q : Post3} {k : List Item} {os : List AOper} {d : Option Nat} {e : Env} {σ : Sto} : CallK T Q k os d e σ true i_r20_Sees [encM c, encM a] ↔ Run T Q (.ops os :: k) (put e d (.bool (sees2 c a))) σ := r20_Sees_call (c := c.com) (a := a.com)
@[go_sem] theorem cut_Sees_M {c a : Cm} {Q : Post3} {k : List Item} {os : List AOper} {d : Option Nat} {e : Env} {σ : Sto} : CallK T Q k os d e σ true i_cut_Sees [encM c, encM a] ↔ Run T Q (.ops os :: k) (put e d (.bool (sees2 c a))) σ := cut_Sees_call (c := c.com) (a := a.com)
@[go_sem] theorem r20_Before_M {c a : Cm} {Q : Post3} {k : List Item} {os : List AOper} {d : Option Nat} {e : Env} {σ : Sto} : CallK T Q k os d e σ true i_r20_Before [encM c, encM a] ↔ Run T Q (.ops os :: k) (put e d (.bool (bef2 c a))) σ := r20_Before_call (a := c.com) (b := a.com)
@[go_sem] theorem cut_Before_M {c a : Cm} {Q : Post3} {k : List Item} {os : List AOper} {d : Option Nat} {e : Env} {σ : Sto} : CallK T Q k os d e σ true i_cut_Before [encM c, encM a] ↔ Run T Q (.ops os :: k) (put e d (.bool (bef2 c a))) σ := cut_Before_call (a := c.com) (b := a.com)

/-- where an element goes, in a list that has its last one first -/
def posR (x : Cm) : List Cm → Nat
  | [] => 0
  | y :: ys => if bef2 x y then posR x ys else ys.length + 1
theorem posR_le (x : Cm) : ∀ A : List Cm, posR x A ≤ A.length
  | [] => Nat.le_refl _
  | y :: ys => by
    unfold posR
    split
    · exact Nat.le_succ_of_le (posR_le x ys)
    · exact Nat.le_refl _
theorem posR_ins (x : Cm) : ∀ A : List Cm, (insR bef2 x A).reverse = A.reverse.take (posR x A) ++ x :: A.reverse.drop (posR x A)
  | [] => rfl
  | y :: ys => by
    have hle := posR_le x ys
    unfold posR insR
    split
    · rw [List.reverse_cons, List.reverse_cons, posR_ins x ys, List.take_append_of_le_length (by simpa using hle), List.drop_append_of_le_length (by simpa using hle)]
      simp
    · rw [List.take_of_length_le (by simp), List.drop_of_length_le (by simp)]
      simp

theorem r23_Seen_b1 {c : Cm} {f : SlF} {l : List Cm} {i : Nat} (hi : i < l.length) (hl : l.length ≤ 1000000) {Q : Post3} {K : List Item} {out : List Cm} (ho : out.length ≤ 1000000) {n : Nat} (hn : n = out.length) : ∀ (A : List Cm), (∃ Z, out = A.reverse ++ Z) →
    (Run T Q (.inLoop r23_Seen.b1 :: .inBlock 2 :: K) (mkE 56 [(0, cms f l), (3, .ptr 0 5 0), (5, cms .lst out), (6, .int .i64 i), (7, .int .i64 A.length)]) [.cells false (cellsM c), .dead] ↔
     Run T Q K (mkE 56 [(0, cms f l), (3, .ptr 0 5 0), (5, cms .lst out), (6, .int .i64 i), (7, .int .i64 (posR l[i] A)), (37, .bool false)]) [.cells false (cellsM c), .dead])
  | [], hZ => by
    rw [run_round, run_unfold r23_Seen.b1.eq_1]
    simp (maxSteps := 2000000) only [go_sem, ↓reduceIte, Nat.reduceLT, Nat.reduceEqDiff, Nat.reduceLeDiff, Nat.reduceAdd, Nat.reduceSub, Nat.reduceMul, Int.reduceLT, Int.reduceLE, Int.reduceEq, Int.reduceNeg, posR, List.length_nil, Int.natCast_zero, Int.ofNat_zero]
  | y :: ys, ⟨Z, hZ⟩ => by
    have hys : ys.length < out.length := by rw [hZ]; simp
    have hy : out[ys.length] = y := by
      have : out[ys.length]? = some y := by rw [hZ, List.reverse_cons, List.append_assoc, List.getElem?_append_right (by simp)]; simp
      rw [List.getElem?_eq_getElem hys] at this; exact Option.some.inj this
    have hw : IntKind.i64.wrap (((ys.length + 1 : Nat) : Int) - 1) = (ys.length : Int) := by rw [wrap_i64 (by omega) (by omega)]; omega
    have hp : (0 : Int) < ((ys.length + 1 : Nat) : Int) := by omega
    have ih := r23_Seen_b1 (c := c) (f := f) hi hl (Q := Q) (K := K) ho hn ys ⟨y :: Z, by rw [hZ]; simp⟩
    rw [run_round, run_unfold r23_Seen.b1.eq_1]
    unfold posR
    cases hb : bef2 l[i] y
    · simp (maxSteps := 2000000) only [go_sem, ↓reduceIte, Nat.reduceLT, Nat.reduceEqDiff, Nat.reduceLeDiff, Nat.reduceAdd, Nat.reduceSub, Nat.reduceMul, Int.reduceLT, Int.reduceLE, Int.reduceEq, Int.reduceNeg, List.length_cons, hp, hi, hys, hy, hw, hb]
    · simp (maxSteps := 2000000) only [go_sem, ↓reduceIte, Nat.reduceLT, Nat.reduceEqDiff, Nat.reduceLeDiff, Nat.reduceAdd, Nat.reduceSub, Nat.reduceMul, Int.reduceLT, Int.reduceLE, Int.reduceEq, Int.reduceNeg, List.length_cons, hp, hi, hys, hy, hw, hb]
      exact ih

theorem cellsM_one (c : Cm) : (cellsM c).all AVal.one = true := by simp only [cellsM, List.all_cons, List.all_nil, sv_one]; rfl
theorem cellsM_pureS (c : Cm) : AVal.pures (cellsM c) = true := by
  simp only [cellsM, AVal.pures, AVal.namesL, AVal.names, sv_pure, Bool.and_self]

theorem r23_Seen_loop {c : Cm} {f : SlF} {l : List Cm} (hl : l.length ≤ 1000000) : ∀ i, i ≤ l.length → ∀ A : List Cm, A.length ≤ i →
    Run T (Res [.tmp 4] (cms .lst (isortR bef2 A ((l.drop i).filter (sees2 c))).reverse)) (.inLoop r23_Seen.b0 :: r23_Seen.k0) (mkE 56 [(0, cms f l), (3, .ptr 0 5 0), (5, cms .lst A.reverse), (6, .int .i64 i)]) [.cells false (cellsM c), .dead] := by
  refine up_ind ?_ fun i hi ih => ?_
  · intro A hA
    rw [List.drop_length, List.filter_nil, isortR]
    rw [run_round, run_unfold r23_Seen.b0.eq_1]
    simp (maxSteps := 2000000) only [go_sem, ↓reduceIte, Nat.reduceLT, Nat.reduceEqDiff, Nat.reduceLeDiff, Nat.reduceAdd, Nat.reduceSub, Nat.reduceMul, Int.reduceLT, Int.reduceLE, Int.reduceEq, Int.reduceNeg, Nat.lt_irrefl, run_unfold r23_Seen.c0.eq_1, run_unfold r23_Seen.c1.eq_1, run_unfold r23_Seen.c2.eq_1, run_unfold r23_Seen.c3.eq_1, r23_Seen.k0, r23_Seen.k1]
  · intro A hA
    have hw := wrap_succ (n := i) (by omega)
    rw [List.drop_eq_getElem_cons hi, List.filter_cons]
    rw [run_round, run_unfold r23_Seen.b0.eq_1]
    cases hs : sees2 c l[i]
    · have := ih A (by omega)
      simp (maxSteps := 2000000) only [go_sem, ↓reduceIte, Nat.reduceLT, Nat.reduceEqDiff, Nat.reduceLeDiff, Nat.reduceAdd, Nat.reduceSub, Nat.reduceMul, Int.reduceLT, Int.reduceLE, Int.reduceEq, Int.reduceNeg, hi, hs, hw, Bool.false_eq_true, run_unfold r23_Seen.c2.eq_1]
      exact this
    · have := ih (insR bef2 l[i] A) (by rw [insR_len]; omega)
      have hpl := posR_le l[i] A
      have hle : posR l[i] A ≤ A.reverse.length := by rw [List.length_reverse]; exact hpl
      simp (maxSteps := 2000000) only [go_sem, ↓reduceIte, Nat.reduceLT, Nat.reduceEqDiff, Nat.reduceLeDiff, Nat.reduceAdd, Nat.reduceSub, Nat.reduceMul, Int.reduceLT, Int.reduceLE, Int.reduceEq, Int.reduceNeg, hi, hs, hw, List.length_reverse]
      refine (r23_Seen_b1 hi hl (by rw [List.length_reverse]; omega) rfl A ⟨[], by simp⟩).2 ?_
      simp (maxSteps := 2000000) only [go_sem, ↓reduceIte, Nat.reduceLT, Nat.reduceEqDiff, Nat.reduceLeDiff, Nat.reduceAdd, Nat.reduceSub, Nat.reduceMul, Int.reduceLT, Int.reduceLE, Int.reduceEq, Int.reduceNeg, run_unfold r23_Seen.c3.eq_1, hi, slice_sv_take hle, slice_sv_drop hle]
      have hbt : (A.reverse.take (posR l[i] A)).length ≤ 1000000 := by rw [List.length_take]; omega
      have hbd : (A.reverse.drop (posR l[i] A)).length ≤ 1000000 := by rw [List.length_drop, List.length_reverse]; omega
      have hfin := posR_ins l[i] A
      have hdr := fun (σ : Sto) => slice_sv_drop (σ := σ) (g := encM) (k := 5) (kd := .i64) hle
      generalize A.reverse.take (posR l[i] A) = X at hbt hfin
      generalize A.reverse.drop (posR l[i] A) = Y at hbd hfin hdr
      refine after_of (appendV_structs (X := []) (Y := X) (g := cellsM) (by decide) (fun _ => rfl) cellsM_one rfl (by simp [maxBytes]; omega)) ?_
      simp (maxSteps := 2000000) only [go_sem, ↓reduceIte, Nat.reduceLT, Nat.reduceEqDiff, Nat.reduceLeDiff, Nat.reduceAdd, Nat.reduceSub, Nat.reduceMul, Int.reduceLT, Int.reduceLE, Int.reduceEq, Int.reduceNeg, List.nil_append, hi]
      refine after_of (appendV_struct (X := X) (y := l[i]) (g := cellsM) (by decide) (fun _ => rfl) cellsM_one rfl rfl (by simp [maxBytes]; omega)) ?_
      simp (maxSteps := 2000000) only [go_sem, ↓reduceIte, Nat.reduceLT, Nat.reduceEqDiff, Nat.reduceLeDiff, Nat.reduceAdd, Nat.reduceSub, Nat.reduceMul, Int.reduceLT, Int.reduceLE, Int.reduceEq, Int.reduceNeg, hdr]
      refine after_of (appendV_structs (X := X ++ [l[i]]) (Y := Y) (g := cellsM) (by decide) (fun _ => rfl) cellsM_one rfl (by simp [maxBytes]; omega)) ?_
      simp (maxSteps := 2000000) only [go_sem, ↓reduceIte, Nat.reduceLT, Nat.reduceEqDiff, Nat.reduceLeDiff, Nat.reduceAdd, Nat.reduceSub, Nat.reduceMul, Int.reduceLT, Int.reduceLE, Int.reduceEq, Int.reduceNeg]
      refine afterG_of (deep_structs (n := 62) (o := 2) (l := X ++ [l[i]] ++ Y) (g := cellsM) (k := 5) (by decide) (by decide) (fun _ => rfl) cellsM_pureS rfl) ?_
      have e : (insR bef2 l[i] A).reverse = X ++ [l[i]] ++ Y := by rw [hfin]; simp
      rw [e] at this
      rw [← sv_lst]
      simp (maxSteps := 2000000) only [go_sem, ↓reduceIte, Nat.reduceLT, Nat.reduceEqDiff, Nat.reduceLeDiff, Nat.reduceAdd, Nat.reduceSub, Nat.reduceMul, Int.reduceLT, Int.reduceLE, Int.reduceEq, Int.reduceNeg, run_unfold r23_Seen.c2.eq_1, hw, isortR]
      exact this

def seenP (l : List Cm) (c : Cm) : List Cm := isort bef2 (l.filter (sees2 c))

theorem r23_Seen_spec {f : SlF} {l : List Cm} {c : Cm} (hl : l.length ≤ 1000000) {lv : List Nat} {σ : Sto} {R : Post} : Cw T true i_r23_Seen [cms f l, encM c] lv σ R ↔ R (cms .lst (seenP l c)) σ := by
  refine cw_intro T_r23_Seen (by simp only [go_sem]) (by simp) ?_; rw [run_unfold r23_Seen.main.eq_1]
  simp (maxSteps := 2000000) only [go_sem, ↓reduceIte, Nat.reduceLT, Nat.reduceEqDiff, Nat.reduceLeDiff, Nat.reduceAdd, Nat.reduceSub, Nat.reduceMul, Int.reduceLT, Int.reduceLE, Int.reduceEq, Int.reduceNeg]
  have := r23_Seen_loop (c := c) (f := f) hl 0 (by omega) [] (by simp)
  rw [List.drop_zero] at this
  refine afterG_of (deep_structs (n := 62) (o := 1) (l := []) (g := cellsM) (k := 5) (by decide) (by decide) (fun _ => rfl) cellsM_pureS rfl) ?_
  simp (maxSteps := 2000000) only [go_sem, ↓reduceIte, Nat.reduceLT, Nat.reduceEqDiff, Nat.reduceLeDiff, Nat.reduceAdd, Nat.reduceSub, Nat.reduceMul, Int.reduceLT, Int.reduceLE, Int.reduceEq, Int.reduceNeg]
  exact this
@[go_sem] theorem r23_Seen_call {f : SlF} {l : List Cm} {c : Cm} (hl : l.length ≤ 1000000) {Q : Post3} {k : List Item} {os : List AOper} {d : Option Nat} {e : Env} {σ : Sto} : CallK T Q k os d e σ true i_r23_Seen [cms f l, encM c] ↔ Run T Q (.ops os :: k) (put e d (cms .lst (seenP l c))) σ := r23_Seen_spec hl


theorem seenP_len {l : List Cm} {c : Cm} : (seenP l c).length ≤ l.length := by
  unfold seenP
  rw [isort_len]
  exact List.length_filter_le ..
theorem seenP_mem {l : List Cm} {c x : Cm} (h : x ∈ seenP l c) : x ∈ l := (List.mem_filter.1 ((isort_mem bef2).1 h)).1

def covP (s : List Int) (l : List Cm) (c : Cm) : Bool := (doP (playL (stP s) (seenP l c)).1 c).isSome

theorem playL_fits : ∀ {l : List Cm} {s : List Int}, Fits s → Fits (playL s l).1
  | [], s, h => h
  | c :: r, s, h => by
    rw [playL]
    cases hp : doP s c with
    | none => exact playL_fits h
    | some y => exact playL_fits (doP_some hp).2.2.2.2.fits

theorem r23_Covered_spec {f g : SlF} {s : List Int} {l : List Cm} {c : Cm} (hf : Fits s) (hl : l.length ≤ 1000000) (hc : ∀ c ∈ l, Fits c.ops) (hcc : Fits c.ops) {lv : List Nat} {σ : Sto} {R : Post} : Cw T true i_r23_Covered [ints g s, cms f l, encM c] lv σ R ↔ R (.bool (covP s l c)) σ := by
  refine cw_intro T_r23_Covered (by simp only [go_sem]) (by simp) ?_; rw [run_unfold r23_Covered.main.eq_1]
  have h1 : (seenP l c).length ≤ 1000000 := Nat.le_trans seenP_len hl
  have h2 : ∀ x ∈ seenP l c, Fits x.ops := fun x hx => hc x (seenP_mem hx)
  have h3 : Fits (stP s) := by unfold stP; split; exact hf; decide
  have h4 : Fits (playL (stP s) (seenP l c)).1 := playL_fits h3
  unfold covP
  cases hp : doP (playL (stP s) (seenP l c)).1 c with
  | none => simp (maxSteps := 2000000) only [go_sem, ↓reduceIte, Nat.reduceLT, Nat.reduceEqDiff, Nat.reduceLeDiff, Nat.reduceAdd, Nat.reduceSub, Nat.reduceMul, Int.reduceLT, Int.reduceLE, Int.reduceEq, Int.reduceNeg, hf, hl, h1, r23_PlayIn_call hf h1 h2, h4, hcc, hp, gotG, Option.isSome_none]
  | some y => simp (maxSteps := 2000000) only [go_sem, ↓reduceIte, Nat.reduceLT, Nat.reduceEqDiff, Nat.reduceLeDiff, Nat.reduceAdd, Nat.reduceSub, Nat.reduceMul, Int.reduceLT, Int.reduceLE, Int.reduceEq, Int.reduceNeg, hf, hl, h1, r23_PlayIn_call hf h1 h2, h4, hcc, hp, gotG, Option.isSome_some]
@[go_sem] theorem r23_Covered_call {f g : SlF} {s : List Int} {l : List Cm} {c : Cm} (hf : Fits s) (hl : l.length ≤ 1000000) (hc : ∀ c ∈ l, Fits c.ops) (hcc : Fits c.ops) {Q : Post3} {k : List Item} {os : List AOper} {d : Option Nat} {e : Env} {σ : Sto} : CallK T Q k os d e σ true i_r23_Covered [ints g s, cms f l, encM c] ↔ Run T Q (.ops os :: k) (put e d (.bool (covP s l c))) σ := r23_Covered_spec hf hl hc hcc

end Go.Abs
/- Chapter 23: what a commit has seen: cloned, deleted, sorted. -/
set_option linter.unusedSimpArgs false
set_option linter.unusedVariables false
set_option maxRecDepth 10000
namespace Go.Abs
open Go

abbrev ob (X : List Cm) : AObj := .cells false (X.flatMap cellsM)

theorem escrow_Covered_1_spec {c x : Cm} {lv : List Nat} {σ : Sto} {R : Post} : Cw T true i_escrow_Covered_1 [encM x, .fptr (cellsM c)] lv σ R ↔ R (.bool (!sees2 c x)) σ := by
  refine cw_intro T_escrow_Covered_1 (by simp only [go_sem]) (by simp) ?_; rw [run_unfold escrow_Covered_1.main.eq_1]
  simp (maxSteps := 2000000) only [go_sem, ↓reduceIte, Nat.reduceLT, Nat.reduceEqDiff, Nat.reduceLeDiff, Nat.reduceAdd, Nat.reduceSub, Nat.reduceMul, Int.reduceLT, Int.reduceLE, Int.reduceEq, Int.reduceNeg]
@[go_sem] theorem escrow_Covered_1_call {c x : Cm} {Q : Post3} {k : List Item} {os : List AOper} {d : Option Nat} {e : Env} {σ : Sto} : CallK T Q k os d e σ true i_escrow_Covered_1 [encM x, .fptr (cellsM c)] ↔ Run T Q (.ops os :: k) (put e d (.bool (!sees2 c x))) σ := escrow_Covered_1_spec


theorem snap_ptrM {σ : Sto} {n : Nat} {c : Cm} (h : σ[0]? = some (.cells false (cellsM c))) : snapA σ (n + 2) (.ptr 0 5 0) = some (.fptr (cellsM c)) := by
  have h0 : (AVal.ptr 0 5 0).pure = false := by simp [AVal.names]
  rw [snapA, h0]
  simp only [Bool.false_eq_true, if_false, h, List.drop_zero, mapM_snapN (cellsM_pureS c), Option.map_some]
  rfl
theorem snap_cloM {σ : Sto} {n : Nat} {f : Fn} {c : Cm} (h : σ[0]? = some (.cells false (cellsM c))) : snapA σ (n + 3) (.clo f [] [.ptr 0 5 0]) = some (.clo f [] [.fptr (cellsM c)]) := by
  have h0 : (AVal.clo f [] [.ptr 0 5 0]).pure = false := by simp [AVal.names, AVal.namesL]
  rw [snapA, h0]
  simp only [Bool.false_eq_true, if_false, List.mapM_cons, List.mapM_nil, snap_ptrM h, Option.pure_def, Option.bind_eq_bind, Option.bind_some]

theorem slices_IndexFunc_M_loop {f : SlF} {l : List Cm} {c : Cm} (hl : l.length ≤ 1000000) : ∀ i, i ≤ l.length →
    Run T (Res [.tmp 4] (.int .i64 (match (l.drop i).findIdx? (fun x => !sees2 c x) with | some j => (i + j : Nat) | none => -1))) (.inLoop slices_IndexFunc_Commit.b0 :: slices_IndexFunc_Commit.k0) (mkE 19 [(0, cms f l), (1, .clo (.func i_escrow_Covered_1) [] [.fptr (cellsM c)]), (7, .int .i64 l.length), (8, .int .i64 i)]) [] := by
  refine up_ind ?_ fun i hi ih => ?_
  · rw [run_round, run_unfold slices_IndexFunc_Commit.b0.eq_1]
    simp (maxSteps := 2000000) only [go_sem, ↓reduceIte, Nat.reduceLT, Nat.reduceEqDiff, Nat.reduceLeDiff, Nat.reduceAdd, Nat.reduceSub, Nat.reduceMul, Int.reduceLT, Int.reduceLE, Int.reduceEq, Int.reduceNeg, Nat.lt_irrefl, run_unfold slices_IndexFunc_Commit.c0.eq_1, run_unfold slices_IndexFunc_Commit.c1.eq_1, slices_IndexFunc_Commit.k0, List.drop_length, List.findIdx?_nil]
  · rw [run_round, run_unfold slices_IndexFunc_Commit.b0.eq_1]
    rw [List.drop_eq_getElem_cons hi]
    simp (maxSteps := 2000000) only [go_sem, ↓reduceIte, Nat.reduceLT, Nat.reduceEqDiff, Nat.reduceLeDiff, Nat.reduceAdd, Nat.reduceSub, Nat.reduceMul, Int.reduceLT, Int.reduceLE, Int.reduceEq, Int.reduceNeg, hi, List.findIdx?_cons, List.nil_append, List.cons_append]
    cases hp : sees2 c l[i]
    · simp (maxSteps := 2000000) only [go_sem, ↓reduceIte, Nat.reduceLT, Nat.reduceEqDiff, Nat.reduceLeDiff, Nat.reduceAdd, Nat.reduceSub, Nat.reduceMul, Int.reduceLT, Int.reduceLE, Int.reduceEq, Int.reduceNeg, hp, Nat.add_zero]
    · simp (maxSteps := 2000000) only [go_sem, ↓reduceIte, Nat.reduceLT, Nat.reduceEqDiff, Nat.reduceLeDiff, Nat.reduceAdd, Nat.reduceSub, Nat.reduceMul, Int.reduceLT, Int.reduceLE, Int.reduceEq, Int.reduceNeg, hp, wrap_succ (show i < 9223372036854775807 by omega)]
      refine Eq.mp (congrArg (fun v => Run T (Res [.tmp 4] (.int .i64 v)) _ _ _) ?_) ih
      cases (l.drop (i + 1)).findIdx? (fun x => !sees2 c x) with
      | none => rfl
      | some j => simp; omega

theorem slices_IndexFunc_M {f : SlF} {l : List Cm} {c : Cm} (hl : l.length ≤ 1000000) {lv : List Nat} {σ : Sto} {R : Post} : Cw T true i_slices_IndexFunc_Commit [cms f l, .clo (.func i_escrow_Covered_1) [] [.fptr (cellsM c)]] lv σ R ↔ R (.int .i64 (idxOf (fun x => !sees2 c x) l)) σ := by
  have hp : AVal.pures (cellsM c) = true := cellsM_pureS c
  refine cw_intro T_slices_IndexFunc_Commit (by simp [AVal.pures, AVal.namesL, AVal.names, sv_pure]) (by simp) ?_
  rw [run_unfold slices_IndexFunc_Commit.main.eq_1]
  simp (maxSteps := 2000000) only [go_sem, ↓reduceIte, Nat.reduceLT, Nat.reduceEqDiff, Nat.reduceLeDiff, Nat.reduceAdd, Nat.reduceSub, Nat.reduceMul, Int.reduceLT, Int.reduceLE, Int.reduceEq, Int.reduceNeg]
  have := slices_IndexFunc_M_loop (f := f) (c := c) hl 0 (by omega)
  simp only [List.drop_zero, Nat.zero_add] at this
  exact this

/-- the list is in memory -/
theorem index_live {l : List Cm} {c : Cm} (hl : l.length ≤ 1000000) {σ : Sto} (h0 : σ[0]? = some (.cells false (cellsM c))) (h1 : σ[1]? = some (ob l)) {Q : Post3} {k : List Item} {os : List AOper} {d : Option Nat} {e : Env} :
    CallK T Q k os d e σ true i_slices_IndexFunc_Commit [.ref 1 (l.length * 5) 0 l.length 5, .clo (.func i_escrow_Covered_1) [] [.ptr 0 5 0]] ↔ Run T Q (.ops os :: k) (put e d (.int .i64 (idxOf (fun x => !sees2 c x) l))) σ := by
  refine callK_live T_slices_IndexFunc_Commit (as := [cms .lst l, .clo (.func i_escrow_Covered_1) [] [.fptr (cellsM c)]]) (slices_IndexFunc_M hl) ?_ (by simp [AVal.pures, AVal.namesL, AVal.names, sv_pure]) rfl
  have s1 := snap_structs (n := 62) (o := 1) (k := 5) (g := cellsM) (l := l) (by decide) (by decide) (fun _ => rfl) cellsM_pureS h1
  have s2 := snap_cloM (n := 61) (f := .func i_escrow_Covered_1) h0
  rw [show snapDepth = 64 from rfl]
  simp only [List.mapM_cons, List.mapM_nil, s1, s2, Option.pure_def, Option.bind_eq_bind, Option.bind_some, cms, sv_lst]

theorem covered1_live {c x : Cm} {σ : Sto} (h0 : σ[0]? = some (.cells false (cellsM c))) {Q : Post3} {k : List Item} {os : List AOper} {d : Option Nat} {e : Env} :
    CallK T Q k os d e σ true i_escrow_Covered_1 [encM x, .ptr 0 5 0] ↔ Run T Q (.ops os :: k) (put e d (.bool (!sees2 c x))) σ := by
  refine callK_live T_escrow_Covered_1 (as := [encM x, .fptr (cellsM c)]) escrow_Covered_1_spec ?_ (by simp [AVal.pures, AVal.namesL, AVal.names, sv_pure]) rfl
  have s1 : snapA σ 64 (encM x) = some (encM x) := snapA_step (by have := cellsM_pureS x; simpa only [encM, AVal.names] using this)
  have s2 := snap_ptrM (n := 62) h0
  rw [show snapDepth = 64 from rfl]
  simp only [List.mapM_cons, List.mapM_nil, s1, s2, Option.pure_def, Option.bind_eq_bind, Option.bind_some]
end Go.Abs
/- Chapter 23: commits that were not seen are deleted. -/
set_option linter.unusedSimpArgs false
set_option linter.unusedVariables false
set_option maxRecDepth 10000
namespace Go.Abs
open Go

theorem cellsM_len (c : Cm) : (cellsM c).length = 5 := rfl
theorem ob_len (X : List Cm) : (X.flatMap cellsM).length = X.length * 5 := flatMap_len cellsM_len X
theorem ob_drop {X : List Cm} {i : Nat} (h : i < X.length) : (X.flatMap cellsM).drop (i * 5) = cellsM X[i] ++ (X.drop (i + 1)).flatMap cellsM := by
  rw [drop_flat cellsM_len, List.drop_eq_getElem_cons h, List.flatMap_cons]
theorem ob_take (X : List Cm) (i : Nat) : (X.flatMap cellsM).take (i * 5) = (X.take i).flatMap cellsM := by
  by_cases h : i ≤ X.length
  · have e : X.flatMap cellsM = (X.take i).flatMap cellsM ++ (X.drop i).flatMap cellsM := by rw [← List.flatMap_append, List.take_append_drop]
    have e2 : ((X.take i).flatMap cellsM).length = i * 5 := by rw [ob_len, List.length_take]; congr 1; omega
    rw [e, List.take_append_of_le_length (by omega), List.take_of_length_le (by omega)]
  · rw [List.take_of_length_le (by rw [ob_len]; omega), List.take_of_length_le (by omega)]
theorem ob_set {X : List Cm} {i : Nat} {v : Cm} (h : i < X.length) : (X.flatMap cellsM).take (i * 5) ++ cellsM v ++ (X.flatMap cellsM).drop (i * 5 + 5) = (X.set i v).flatMap cellsM := by
  rw [ob_take, show i * 5 + 5 = (i + 1) * 5 by omega, drop_flat cellsM_len, List.set_eq_take_append_cons_drop, if_pos h, List.flatMap_append, List.flatMap_cons, List.append_assoc]

/-- a commit of zeros -/
def z0 : Cm := ⟨0, 0, .nil, [], 0, .nil, []⟩
theorem rep_z0 : ∀ n : Nat, (List.replicate n [AVal.int .i64 0, .int .i64 0, .nils, .int .i64 0, .nils]).flatten = (List.replicate n z0).flatMap cellsM
  | 0 => rfl
  | n + 1 => by rw [List.replicate_succ, List.replicate_succ, List.flatten_cons, List.flatMap_cons, rep_z0 n]; rfl

theorem slice_from {X : List Cm} {i : Nat} {kd : IntKind} {σ : Sto} (h : σ[1]? = some (ob X)) (hi : i < X.length) : sliceV 5 (.ref 1 (X.length * 5) 0 X.length 5) (some (.int kd (i : Int))) none none σ = some (.ref 1 (X.length * 5) (i * 5) (X.length - i) 5, σ) := by
  have h1 : ¬ i * 5 = X.length * 5 := by omega
  simp only [sliceV, h, ob_len, bnd, natOf_nat, Bool.false_and, Bool.false_eq_true, if_false, Nat.zero_add, h1, show i ≤ X.length by omega, Nat.le_refl, and_self, if_true, show (0 : Nat) < 5 by decide]
theorem slice_to {X : List Cm} {i : Nat} {kd : IntKind} {σ : Sto} (h : σ[1]? = some (ob X)) (hi : i ≤ X.length) (h0 : 0 < X.length) : sliceV 5 (.ref 1 (X.length * 5) 0 X.length 5) none (some (.int kd (i : Int))) none σ = some (.ref 1 (X.length * 5) 0 i 5, σ) := by
  have h1 : ¬ 0 = X.length * 5 := by omega
  simp only [sliceV, h, ob_len, bnd, natOf_nat, Bool.false_and, Bool.false_eq_true, if_false, Nat.zero_add, Nat.zero_mul, Nat.sub_zero, h1, show i * 5 ≤ X.length * 5 by omega, Nat.zero_le, and_self, if_true, show (0 : Nat) < 5 by decide]

theorem st_clearM {Q : Post3} {k : List Item} {os : List AOper} {d : Option Nat} {e : Env} {σ : Sto} {z : List AVal} {x : Opd} {a r : List Nat} : Run T Q (.ops (⟨d, .clear z x, none, a, r⟩ :: os) :: k) e σ ↔ after T Q k os d e (stepOp [] (.clear z x) e σ) := ops_step (by simp) (by simp)
theorem clear_M {X : List Cm} {i : Nat} {e : Env} {x : Opd} {σ : Sto} (h : σ[1]? = some (ob X)) (hi : i ≤ X.length) (hx : ev e x = .ref 1 (X.length * 5) (i * 5) (X.length - i) 5) :
    stepOp [] (.clear [.int .i64 0, .int .i64 0, .nils, .int .i64 0, .nils] x) e σ = some (.tup [], σ.set 1 (ob (X.take i ++ List.replicate (X.length - i) z0))) := by
  have e1 : i * 5 + (X.length - i) * 5 = X.length * 5 := by omega
  simp only [stepOp, hx, h, ob_len, rep_z0, overwrite, ob_take, List.length_replicate, e1, List.drop_of_length_le (show (X.flatMap cellsM).length ≤ X.length * 5 by rw [ob_len]; exact Nat.le_refl _), List.append_nil, lvOk, List.all_nil, List.length_cons, List.length_nil, Nat.le_refl, and_self, if_true, List.flatMap_append, ob]

theorem ob_names {p : Nat → Bool} {X : List Cm} : AVal.namesL p (X.flatMap cellsM) = true := v_names_flat (fun x => by simp only [cellsM, AVal.namesL, AVal.names, sv_pure, Bool.and_self]) X
theorem ob_namesT {p : Nat → Bool} {X : List Cm} {i : Nat} : AVal.namesL p ((X.flatMap cellsM).take (i * 5)) = true := by rw [ob_take]; exact ob_names
theorem ob_namesD {p : Nat → Bool} {X : List Cm} {i : Nat} : AVal.namesL p ((X.flatMap cellsM).drop (i * 5 + 5)) = true := by rw [show i * 5 + 5 = (i + 1) * 5 by omega, drop_flat cellsM_len]; exact ob_names

theorem DeleteFunc_loop {c : Cm} {l : List Cm} {n : Nat} (hn : l.length = n) (h0 : n ≤ 1000000) {R : Post} : ∀ j : Nat, j ≤ n → ∀ (i : Nat) (X : List Cm), i < j → X.length = n → X.drop j = l.drop j →
    (Run T (Ret [.tmp 4] R) (.inLoop slices_DeleteFunc_Commit.b0 :: slices_DeleteFunc_Commit.k0) (mkE 42 [(0, .ref 1 (n * 5) 0 n 5), (1, .clo (.func i_escrow_Covered_1) [] [.ptr 0 5 0]), (5, .int .i64 i), (6, .int .i64 j)]) [.cells false (cellsM c), ob X] ↔
     R (.ref 1 (n * 5) 0 (X.take i ++ (l.drop j).filter (sees2 c)).length 5) [.cells false (cellsM c), ob ((X.take i ++ (l.drop j).filter (sees2 c)) ++ List.replicate (n - (X.take i ++ (l.drop j).filter (sees2 c)).length) z0)]) := by
  refine up_ind ?_ fun j hj ih => ?_
  · intro i X hij hX hd
    have hi : i < n := hij
    subst hX
    rw [show (l.drop X.length) = [] from List.drop_of_length_le (by omega), List.filter_nil, List.append_nil]
    have e1 : (X.take i).length = i := by rw [List.length_take]; omega
    rw [run_round, run_unfold slices_DeleteFunc_Commit.b0.eq_1]
    simp (maxSteps := 2000000) only [go_sem, ↓reduceIte, Nat.reduceLT, Nat.reduceEqDiff, Nat.reduceLeDiff, Nat.reduceAdd, Nat.reduceSub, Nat.reduceMul, Int.reduceLT, Int.reduceLE, Int.reduceEq, Int.reduceNeg, Nat.lt_irrefl, run_unfold slices_DeleteFunc_Commit.c0.eq_1, run_unfold slices_DeleteFunc_Commit.c1.eq_1, slices_DeleteFunc_Commit.k0, ob_len, slice_from (X := X) (i := i) (kd := .i64) (σ := [.cells false (cellsM c), ob X]) rfl hi]
    rw [st_clearM, clear_M (X := X) (i := i) rfl (by omega) rfl]
    have hl2 : (X.take i ++ List.replicate (X.length - i) z0).length = X.length := by rw [List.length_append, e1, List.length_replicate]; omega
    have hst := slice_to (X := X.take i ++ List.replicate (X.length - i) z0) (i := i) (kd := .i64) (σ := [.cells false (cellsM c), ob (X.take i ++ List.replicate (X.length - i) z0)]) rfl (by omega) (by omega)
    rw [hl2] at hst
    simp (maxSteps := 2000000) only [go_sem, ↓reduceIte, Nat.reduceLT, Nat.reduceEqDiff, Nat.reduceLeDiff, Nat.reduceAdd, Nat.reduceSub, Nat.reduceMul, Int.reduceLT, Int.reduceLE, Int.reduceEq, Int.reduceNeg, hst, e1]
  · intro i X hij hX hd
    have hi : i < n := by omega
    have hjX : j < X.length := by omega
    have hjl : j < l.length := by omega
    have hXj : X[j] = l[j] := by
      rw [List.drop_eq_getElem_cons hjX, List.drop_eq_getElem_cons hjl] at hd
      exact (List.cons.inj hd).1
    have hw := wrap_succ (n := j) (by omega)
    have hwi := wrap_succ (n := i) (by omega)
    have hdr := ob_drop hjX
    have hln := ob_len X
    rw [List.drop_eq_getElem_cons hjl, List.filter_cons]
    rw [run_round, run_unfold slices_DeleteFunc_Commit.b0.eq_1]
    simp (maxSteps := 2000000) only [go_sem, ↓reduceIte, Nat.reduceLT, Nat.reduceEqDiff, Nat.reduceLeDiff, Nat.reduceAdd, Nat.reduceSub, Nat.reduceMul, Int.reduceLT, Int.reduceLE, Int.reduceEq, Int.reduceNeg, hln, hX, hj, hdr, hXj]
    rw [covered1_live rfl]
    cases hs : sees2 c l[j]
    · have := ih i X (by omega) hX (by
        have := congrArg List.tail hd
        simpa using this)
      simp (maxSteps := 2000000) only [go_sem, ↓reduceIte, Nat.reduceLT, Nat.reduceEqDiff, Nat.reduceLeDiff, Nat.reduceAdd, Nat.reduceSub, Nat.reduceMul, Int.reduceLT, Int.reduceLE, Int.reduceEq, Int.reduceNeg, hs, run_unfold slices_DeleteFunc_Commit.c1.eq_1, hw, Bool.false_eq_true, ob_names, AVal.unders]
      exact this
    · have hset := ob_set (X := X) (i := i) (v := l[j]) (by omega)
      have := ih (i + 1) (X.set i l[j]) (by omega) (by simpa using hX) (by
        rw [List.drop_set_of_lt (by omega)]
        have := congrArg List.tail hd
        simpa using this)
      rw [take_set_succ (by omega), List.append_assoc, List.singleton_append] at this
      simp (maxSteps := 2000000) only [go_sem, ↓reduceIte, Nat.reduceLT, Nat.reduceEqDiff, Nat.reduceLeDiff, Nat.reduceAdd, Nat.reduceSub, Nat.reduceMul, Int.reduceLT, Int.reduceLE, Int.reduceEq, Int.reduceNeg, hs, hln, hX, hi, run_unfold slices_DeleteFunc_Commit.c1.eq_1, hw, hwi, show i * 5 + 5 ≤ n * 5 by omega, ob_namesT, ob_namesD, hset, ob_names, AVal.unders]
      exact this

/-- what is left of a list, in memory -/
theorem slices_DeleteFunc_M {c : Cm} {l : List Cm} (h0 : l.length ≤ 1000000) {R : Post} :
    Cw T false i_slices_DeleteFunc_Commit [.ref 1 (l.length * 5) 0 l.length 5, .clo (.func i_escrow_Covered_1) [] [.ptr 0 5 0]] [] [.cells false (cellsM c), ob l] R ↔
     R (.ref 1 (l.length * 5) 0 (l.filter (sees2 c)).length 5) [.cells false (cellsM c), ob (l.filter (sees2 c) ++ List.replicate (l.length - (l.filter (sees2 c)).length) z0)] := by
  rw [cw_enter T_slices_DeleteFunc_Commit (by simp), run_unfold slices_DeleteFunc_Commit.main.eq_1]
  simp (maxSteps := 2000000) only [go_sem, ↓reduceIte, Nat.reduceLT, Nat.reduceEqDiff, Nat.reduceLeDiff, Nat.reduceAdd, Nat.reduceSub, Nat.reduceMul, Int.reduceLT, Int.reduceLE, Int.reduceEq, Int.reduceNeg]
  rw [index_live h0 rfl rfl]
  cases h : l.findIdx? (fun x => !sees2 c x) with
  | none =>
    have hi : idxOf (fun x => !sees2 c x) l = -1 := by unfold idxOf; rw [h]
    have hall : ∀ x ∈ l, sees2 c x = true := by
      rw [List.findIdx?_eq_none_iff] at h
      intro x hx
      have := h x hx
      simpa using this
    have hf : l.filter (sees2 c) = l := List.filter_eq_self.2 hall
    rw [hi, hf]
    simp (maxSteps := 2000000) only [go_sem, ↓reduceIte, Nat.reduceLT, Nat.reduceEqDiff, Nat.reduceLeDiff, Nat.reduceAdd, Nat.reduceSub, Nat.reduceMul, Int.reduceLT, Int.reduceLE, Int.reduceEq, Int.reduceNeg, Nat.sub_self, List.replicate_zero, List.append_nil]
  | some j =>
    have hi : idxOf (fun x => !sees2 c x) l = (j : Int) := by unfold idxOf; rw [h]
    obtain ⟨hj, hpj, hbef⟩ := List.findIdx?_eq_some_iff_getElem.1 h
    have hw := wrap_succ (n := j) (by omega)
    rw [hi]
    have hneg : ¬ ((j : Int) = -1) := by omega
    have hf : l.filter (sees2 c) = l.take j ++ (l.drop (j + 1)).filter (sees2 c) := by
      conv => lhs; rw [← List.take_append_drop j l, List.filter_append, List.drop_eq_getElem_cons hj, List.filter_cons]
      have h1 : sees2 c l[j] = false := by simpa using hpj
      have h2 : (l.take j).filter (sees2 c) = l.take j := List.filter_eq_self.2 fun x hx => by
        obtain ⟨i, hi, rfl⟩ := List.mem_iff_getElem.1 hx
        rw [List.getElem_take]
        have := hbef i (by rw [List.length_take] at hi; omega)
        simpa using this
      rw [h2, h1]
      rfl
    simp (maxSteps := 2000000) only [go_sem, ↓reduceIte, Nat.reduceLT, Nat.reduceEqDiff, Nat.reduceLeDiff, Nat.reduceAdd, Nat.reduceSub, Nat.reduceMul, Int.reduceLT, Int.reduceLE, Int.reduceEq, Int.reduceNeg, hneg, hw]
    rw [hf]
    exact DeleteFunc_loop (c := c) (l := l) rfl h0 (j + 1) (by omega) j l (by omega) rfl rfl
end Go.Abs
/- Chapter 23: insertion sort of commits, and what is covered. -/
set_option linter.unusedSimpArgs false
set_option linter.unusedVariables false
set_option maxRecDepth 100000
set_option maxHeartbeats 4000000
namespace Go.Abs
open Go

def cmp2 (a b : Cm) : Int := if bef2 a b then -1 else if bef2 b a then 1 else 0
theorem escrow_Covered_2_spec {a b : Cm} {lv : List Nat} {σ : Sto} {R : Post} : Cw T true i_escrow_Covered_2 [encM a, encM b] lv σ R ↔ R (.int .i64 (cmp2 a b)) σ := by
  refine cw_intro T_escrow_Covered_2 (by simp only [go_sem]) (by simp) ?_; rw [run_unfold escrow_Covered_2.main.eq_1]
  unfold cmp2
  cases h1 : bef2 a b
  · cases h2 : bef2 b a
    · simp (maxSteps := 2000000) only [go_sem, ↓reduceIte, Nat.reduceLT, Nat.reduceEqDiff, Nat.reduceLeDiff, Nat.reduceAdd, Nat.reduceSub, Nat.reduceMul, Int.reduceLT, Int.reduceLE, Int.reduceEq, Int.reduceNeg, h1, h2, ]
    · simp (maxSteps := 2000000) only [go_sem, ↓reduceIte, Nat.reduceLT, Nat.reduceEqDiff, Nat.reduceLeDiff, Nat.reduceAdd, Nat.reduceSub, Nat.reduceMul, Int.reduceLT, Int.reduceLE, Int.reduceEq, Int.reduceNeg, h1, h2, ]
  · simp (maxSteps := 2000000) only [go_sem, ↓reduceIte, Nat.reduceLT, Nat.reduceEqDiff, Nat.reduceLeDiff, Nat.reduceAdd, Nat.reduceSub, Nat.reduceMul, Int.reduceLT, Int.reduceLE, Int.reduceEq, Int.reduceNeg, h1, ]
@[go_sem] theorem escrow_Covered_2_call {a b : Cm} {Q : Post3} {k : List Item} {os : List AOper} {d : Option Nat} {e : Env} {σ : Sto} : CallK T Q k os d e σ true i_escrow_Covered_2 [encM a, encM b] ↔ Run T Q (.ops os :: k) (put e d (.int .i64 (cmp2 a b))) σ := escrow_Covered_2_spec


theorem insC_b1 {B : AObj} {n m i : Nat} {Q : Post3} (hmn : m ≤ n) (hn : n ≤ 1000000) {x : Cm}
    {F : List Cm} (next : Run T Q (.inLoop slices_insertionSortCmpFunc_Commit.b0 :: slices_insertionSortCmpFunc_Commit.k0) (mkE 53 [(0, .ref 1 (n * 5) 0 m 5), (1, .int .i64 0), (2, .int .i64 m), (3, .clo (.func i_escrow_Covered_2) [] []), (8, .int .i64 ((i + 1 : Nat) : Int))]) [B, ob F]) (hi : i < m) :
    ∀ (Pr S : List Cm), Pr.length ≤ i → Pr.length + 1 + S.length = n → F = (insR bef2 x Pr).reverse ++ S →
    Run T Q (.inLoop slices_insertionSortCmpFunc_Commit.b1 :: slices_insertionSortCmpFunc_Commit.k1) (mkE 53 [(0, .ref 1 (n * 5) 0 m 5), (1, .int .i64 0), (2, .int .i64 m), (3, .clo (.func i_escrow_Covered_2) [] []), (8, .int .i64 i), (9, .int .i64 Pr.length)]) [B, ob (Pr.reverse ++ x :: S)]
  | [], S, _, hl, hF => by
    rw [run_round, run_unfold slices_insertionSortCmpFunc_Commit.b1.eq_1]
    subst hF
    simp (maxSteps := 2000000) only [go_sem, ↓reduceIte, Nat.reduceLT, Nat.reduceEqDiff, Nat.reduceLeDiff, Nat.reduceAdd, Nat.reduceSub, Nat.reduceMul, Int.reduceLT, Int.reduceLE, Int.reduceEq, Int.reduceNeg, run_unfold slices_insertionSortCmpFunc_Commit.c0.eq_1, run_unfold slices_insertionSortCmpFunc_Commit.c1.eq_1, slices_insertionSortCmpFunc_Commit.k0, slices_insertionSortCmpFunc_Commit.k1, wrap_succ (show i < 9223372036854775807 by omega), List.length_nil, Int.natCast_zero, Int.ofNat_zero]
    exact next
  | y :: Pr, S, hpi, hl, hF => by
    rw [run_round, run_unfold slices_insertionSortCmpFunc_Commit.b1.eq_1]
    simp only [List.length_cons] at hl hpi
    obtain ⟨D, hD⟩ : ∃ D, D = (y :: Pr).reverse ++ x :: S := ⟨_, rfl⟩
    have hDl : D.length = n := by rw [hD]; simp; omega
    have e0 : D = Pr.reverse ++ y :: x :: S := by rw [hD]; simp
    have h1 : Pr.length + 1 < D.length := by omega
    have h2 : Pr.length < D.length := by omega
    have g1 : D[Pr.length + 1] = x := by
      have : D[Pr.length + 1]? = some x := by rw [e0, List.getElem?_append_right (by simp)]; simp
      rw [List.getElem?_eq_getElem h1] at this; exact Option.some.inj this
    have g2 : D[Pr.length] = y := by
      have : D[Pr.length]? = some y := by rw [e0, List.getElem?_append_right (by simp)]; simp
      rw [List.getElem?_eq_getElem h2] at this; exact Option.some.inj this
    have hw : IntKind.i64.wrap (((Pr.length + 1 : Nat) : Int) - 1) = ((Pr.length : Nat) : Int) := by rw [wrap_i64 (by omega) (by omega)]; omega
    have hpos : (0 : Int) < ((Pr.length + 1 : Nat) : Int) := by omega
    have d1 := ob_drop h1
    have d2 := ob_drop h2
    rw [g1] at d1
    rw [g2] at d2
    have hln := ob_len D
    rw [hDl] at hln
    have b1 : Pr.length + 1 < m := by omega
    have b2 : Pr.length < m := by omega
    rw [← hD]
    cases hr : bef2 x y
    · have hcn : ¬ cmp2 x y < 0 := by unfold cmp2; rw [hr]; split <;> simp_all; split <;> decide
      simp (maxSteps := 2000000) only [go_sem, ↓reduceIte, Nat.reduceLT, Nat.reduceEqDiff, Nat.reduceLeDiff, Nat.reduceAdd, Nat.reduceSub, Nat.reduceMul, Int.reduceLT, Int.reduceLE, Int.reduceEq, Int.reduceNeg, List.length_cons, hpos, hln, b1, b2, d1, d2, hw, hcn, run_unfold slices_insertionSortCmpFunc_Commit.c0.eq_1, run_unfold slices_insertionSortCmpFunc_Commit.c1.eq_1, slices_insertionSortCmpFunc_Commit.k0, slices_insertionSortCmpFunc_Commit.k1, wrap_succ (show i < 9223372036854775807 by omega), List.nil_append, List.append_nil]
      have : F = D := by rw [hF, insR, if_neg (by rw [hr]; decide), hD]; simp
      rw [this] at next
      exact next
    · have hcn : cmp2 x y < 0 := by unfold cmp2; rw [hr, if_pos rfl]; decide
      have hs1 := ob_set (X := D) (i := Pr.length + 1) (v := y) h1
      have hl2 : (D.set (Pr.length + 1) y).length = n := by rw [List.length_set]; exact hDl
      have hs2 := ob_set (X := D.set (Pr.length + 1) y) (i := Pr.length) (v := x) (by omega)
      have hln2 := ob_len (D.set (Pr.length + 1) y)
      rw [hl2] at hln2
      simp (maxSteps := 2000000) only [go_sem, ↓reduceIte, Nat.reduceLT, Nat.reduceEqDiff, Nat.reduceLeDiff, Nat.reduceAdd, Nat.reduceSub, Nat.reduceMul, Int.reduceLT, Int.reduceLE, Int.reduceEq, Int.reduceNeg, List.length_cons, hpos, hln, hln2, b1, b2, d1, d2, hw, hcn, hs1, hs2, show (Pr.length + 1) * 5 + 5 ≤ n * 5 by omega, show Pr.length * 5 + 5 ≤ n * 5 by omega, List.nil_append, List.append_nil]
      have e1 : (D.set (Pr.length + 1) y).set Pr.length x = Pr.reverse ++ x :: y :: S := by
        rw [e0, show Pr.reverse ++ y :: x :: S = (Pr.reverse ++ [y]) ++ x :: S by simp, List.set_append_right _ _ (by simp), show Pr.length + 1 - (Pr.reverse ++ [y]).length = 0 by simp, List.set_cons_zero,
          List.append_assoc, List.set_append_right _ _ (by simp), show Pr.length - Pr.reverse.length = 0 by simp]
        simp
      rw [e1]
      refine insC_b1 hmn hn next hi Pr (y :: S) (by omega) (by simp; omega) ?_
      rw [hF, insR, if_pos hr]
      simp

theorem insC_b0 {B : AObj} {n m : Nat} {R : Post} (hmn : m ≤ n) (hn : n ≤ 1000000) {F Z : List Cm}
    (next : R (.tup []) [B, ob (F ++ Z)]) : ∀ (S : List Cm) (A : List Cm), A.length + S.length = m → A.length + S.length + Z.length = n → F = (isortR bef2 A S).reverse →
    Run T (Ret [] R) (.inLoop slices_insertionSortCmpFunc_Commit.b0 :: slices_insertionSortCmpFunc_Commit.k0) (mkE 53 [(0, .ref 1 (n * 5) 0 m 5), (1, .int .i64 0), (2, .int .i64 m), (3, .clo (.func i_escrow_Covered_2) [] []), (8, .int .i64 A.length)]) [B, ob (A.reverse ++ (S ++ Z))]
  | [], A, hl, _, hF => by
    rw [run_round, run_unfold slices_insertionSortCmpFunc_Commit.b0.eq_1]
    simp only [List.length_nil, Nat.add_zero] at hl
    simp (maxSteps := 2000000) only [go_sem, ↓reduceIte, Nat.reduceLT, Nat.reduceEqDiff, Nat.reduceLeDiff, Nat.reduceAdd, Nat.reduceSub, Nat.reduceMul, Int.reduceLT, Int.reduceLE, Int.reduceEq, Int.reduceNeg, hl, Nat.lt_irrefl, run_unfold slices_insertionSortCmpFunc_Commit.c0.eq_1, run_unfold slices_insertionSortCmpFunc_Commit.c1.eq_1, slices_insertionSortCmpFunc_Commit.k0, slices_insertionSortCmpFunc_Commit.k1, List.nil_append]
    rw [hF, isortR] at next
    exact next
  | x :: S, A, hl, hz, hF => by
    rw [run_round, run_unfold slices_insertionSortCmpFunc_Commit.b0.eq_1]
    simp only [List.length_cons] at hl hz
    have hlt : A.length < m := by omega
    simp (maxSteps := 2000000) only [go_sem, ↓reduceIte, Nat.reduceLT, Nat.reduceEqDiff, Nat.reduceLeDiff, Nat.reduceAdd, Nat.reduceSub, Nat.reduceMul, Int.reduceLT, Int.reduceLE, Int.reduceEq, Int.reduceNeg, hlt, List.cons_append]
    refine insC_b1 hmn hn ?_ hlt A (S ++ Z) (Nat.le_refl _) (by simp; omega) rfl
    have := insC_b0 (B := B) hmn hn next S (insR bef2 x A) (by rw [insR_len]; omega) (by rw [insR_len]; omega) (by rw [hF, isortR])
    rw [insR_len] at this
    exact this

/-- insertion sort of a list of commits, with others behind them -/
theorem insertionSort_M {B : AObj} {D Z : List Cm} {n m : Nat} {R : Post} (hm : D.length = m) (hn : m + Z.length = n) (h1 : n ≤ 1000000) (next : R (.tup []) [B, ob (isort bef2 D ++ Z)]) :
    Cw T false i_slices_insertionSortCmpFunc_Commit [.ref 1 (n * 5) 0 m 5, .int .i64 0, .int .i64 m, .clo (.func i_escrow_Covered_2) [] []] [] [B, ob (D ++ Z)] R := by
  rw [cw_enter T_slices_insertionSortCmpFunc_Commit (by simp), run_unfold slices_insertionSortCmpFunc_Commit.main.eq_1]
  simp (maxSteps := 2000000) only [go_sem, ↓reduceIte, Nat.reduceLT, Nat.reduceEqDiff, Nat.reduceLeDiff, Nat.reduceAdd, Nat.reduceSub, Nat.reduceMul, Int.reduceLT, Int.reduceLE, Int.reduceEq, Int.reduceNeg]
  cases D with
  | nil =>
    rw [run_round, run_unfold slices_insertionSortCmpFunc_Commit.b0.eq_1]
    simp only [List.length_nil] at hm
    subst hm
    simp (maxSteps := 2000000) only [go_sem, ↓reduceIte, Nat.reduceLT, Nat.reduceEqDiff, Nat.reduceLeDiff, Nat.reduceAdd, Nat.reduceSub, Nat.reduceMul, Int.reduceLT, Int.reduceLE, Int.reduceEq, Int.reduceNeg, run_unfold slices_insertionSortCmpFunc_Commit.c0.eq_1, run_unfold slices_insertionSortCmpFunc_Commit.c1.eq_1, slices_insertionSortCmpFunc_Commit.k0, slices_insertionSortCmpFunc_Commit.k1, List.length_nil]
    exact next
  | cons x S =>
    simp only [List.length_cons] at hm
    have := insC_b0 (B := B) (n := n) (m := m) (A := [x]) (by omega) h1 next S (by simp; omega) (by simp; omega) rfl
    exact this
theorem insertionSort_iff {B : AObj} {D Z : List Cm} {n m : Nat} {R : Post} (hm : D.length = m) (hn : m + Z.length = n) (h1 : n ≤ 1000000) :
    Cw T false i_slices_insertionSortCmpFunc_Commit [.ref 1 (n * 5) 0 m 5, .int .i64 0, .int .i64 m, .clo (.func i_escrow_Covered_2) [] []] [] [B, ob (D ++ Z)] R ↔ R (.tup []) [B, ob (isort bef2 D ++ Z)] :=
  Cw.iff_of fun R h => insertionSort_M hm hn h1 h

theorem stable_M {B : AObj} {D Z : List Cm} {n m : Nat} {R : Post} (hm : D.length = m) (hn : m + Z.length = n) (h1 : n ≤ 19) :
    Cw T false i_slices_stableCmpFunc_Commit [.ref 1 (n * 5) 0 m 5, .int .i64 m, .clo (.func i_escrow_Covered_2) [] []] [] [B, ob (D ++ Z)] R ↔ R (.tup []) [B, ob (isort bef2 D ++ Z)] := by
  have hq := fun (Q : Post3) (k : List Item) (os : List AOper) (d : Option Nat) (e : Env) => callK_shared (T := T) (Q := Q) (k := k) (os := os) (d := d) (e := e) (fun {R} => insertionSort_iff (B := B) (D := D) (Z := Z) (n := n) (m := m) (R := R) hm hn (by omega))
  rw [cw_enter T_slices_stableCmpFunc_Commit (by simp), run_unfold slices_stableCmpFunc_Commit.main.eq_1]
  simp (maxSteps := 2000000) only [go_sem, ↓reduceIte, Nat.reduceLT, Nat.reduceEqDiff, Nat.reduceLeDiff, Nat.reduceAdd, Nat.reduceSub, Nat.reduceMul, Int.reduceLT, Int.reduceLE, Int.reduceEq, Int.reduceNeg]
  rw [run_round, run_unfold slices_stableCmpFunc_Commit.b0.eq_1]
  simp (maxSteps := 2000000) only [go_sem, ↓reduceIte, Nat.reduceLT, Nat.reduceEqDiff, Nat.reduceLeDiff, Nat.reduceAdd, Nat.reduceSub, Nat.reduceMul, Int.reduceLT, Int.reduceLE, Int.reduceEq, Int.reduceNeg, show ¬ ((20 : Int) ≤ (m : Int)) by omega, run_unfold slices_stableCmpFunc_Commit.c0.eq_1, run_unfold slices_stableCmpFunc_Commit.c1.eq_1, run_unfold slices_stableCmpFunc_Commit.c2.eq_1, run_unfold slices_stableCmpFunc_Commit.c3.eq_1, slices_stableCmpFunc_Commit.k0, slices_stableCmpFunc_Commit.k1, slices_stableCmpFunc_Commit.k2, hq]
  rw [run_round, run_unfold slices_stableCmpFunc_Commit.b1.eq_1]
  simp (maxSteps := 2000000) only [go_sem, ↓reduceIte, Nat.reduceLT, Nat.reduceEqDiff, Nat.reduceLeDiff, Nat.reduceAdd, Nat.reduceSub, Nat.reduceMul, Int.reduceLT, Int.reduceLE, Int.reduceEq, Int.reduceNeg, show ¬ ((20 : Int) < (m : Int)) by omega, run_unfold slices_stableCmpFunc_Commit.c0.eq_1, run_unfold slices_stableCmpFunc_Commit.c1.eq_1, run_unfold slices_stableCmpFunc_Commit.c2.eq_1, run_unfold slices_stableCmpFunc_Commit.c3.eq_1, slices_stableCmpFunc_Commit.k0, slices_stableCmpFunc_Commit.k1, slices_stableCmpFunc_Commit.k2]

theorem sortStable_M {B : AObj} {D Z : List Cm} {n m : Nat} {R : Post} (hm : D.length = m) (hn : m + Z.length = n) (h1 : n ≤ 19) :
    Cw T false i_slices_SortStableFunc_Commit [.ref 1 (n * 5) 0 m 5, .clo (.func i_escrow_Covered_2) [] []] [] [B, ob (D ++ Z)] R ↔ R (.tup []) [B, ob (isort bef2 D ++ Z)] := by
  have hq := fun (Q : Post3) (k : List Item) (os : List AOper) (d : Option Nat) (e : Env) => callK_shared (T := T) (Q := Q) (k := k) (os := os) (d := d) (e := e) (fun {R} => stable_M (B := B) (D := D) (Z := Z) (n := n) (m := m) (R := R) hm hn h1)
  have hln : ((D ++ Z).flatMap cellsM).length = n * 5 := by rw [ob_len, List.length_append]; congr 1; omega
  rw [cw_enter T_slices_SortStableFunc_Commit (by simp), run_unfold slices_SortStableFunc_Commit.main.eq_1]
  simp (maxSteps := 2000000) only [go_sem, ↓reduceIte, Nat.reduceLT, Nat.reduceEqDiff, Nat.reduceLeDiff, Nat.reduceAdd, Nat.reduceSub, Nat.reduceMul, Int.reduceLT, Int.reduceLE, Int.reduceEq, Int.reduceNeg, hln, hq]

theorem clone_M {f : SlF} {l : List Cm} {σ : Sto} {R : Post} (h : eqnilV false .sl (cms f l) σ = some (.bool false, σ)) (hl : l.length ≤ 1000) :
    Cw T false i_slices_Clone_Commit [cms f l] [] σ R ↔ R (.ref σ.length (l.length * 5) 0 l.length 5) (σ ++ [ob l]) := by
  rw [cw_enter T_slices_Clone_Commit (by simp), run_unfold slices_Clone_Commit.main.eq_1]
  simp (maxSteps := 2000000) only [go_sem, ↓reduceIte, Nat.reduceLT, Nat.reduceEqDiff, Nat.reduceLeDiff, Nat.reduceAdd, Nat.reduceSub, Nat.reduceMul, Int.reduceLT, Int.reduceLE, Int.reduceEq, Int.reduceNeg, h]
  have ha := appendV_structs (σ := σ ++ [.cells false []]) (o := σ.length) (k := 5) (bytes := 72) (f := f) (g := cellsM) (X := []) (Y := l) (by decide) (fun _ => rfl) cellsM_one get_last (by simp [maxBytes]; omega)
  simp only [List.length_nil, Nat.zero_mul, List.nil_append, set_last] at ha
  rw [show appendV 5 72 (.ref σ.length 0 0 0 5) (cms f l) (σ ++ [.cells false []]) = some (.ref σ.length (l.length * 5) 0 l.length 5, σ ++ [ob l]) from ha]
  simp (maxSteps := 2000000) only [go_sem, ↓reduceIte, Nat.reduceLT, Nat.reduceEqDiff, Nat.reduceLeDiff, Nat.reduceAdd, Nat.reduceSub, Nat.reduceMul, Int.reduceLT, Int.reduceLE, Int.reduceEq, Int.reduceNeg]

theorem deep_pre {σ : Sto} {D Z : List Cm} {m n : Nat} (hm : D.length = m) (hn : m + Z.length = n) (hσ : σ[1]? = some (ob (D ++ Z))) : deepA 64 σ (.ref 1 (n * 5) 0 m 5) = some (cms .lst D, σ.set 1 .dead) := by
  have h0 : (AVal.ref 1 (n * 5) 0 m 5).pure = false := by simp [AVal.names]
  have hln : ((D ++ Z).flatMap cellsM).length = n * 5 := by rw [ob_len, List.length_append]; congr 1; omega
  have hp : AVal.pures ((D ++ Z).flatMap cellsM) = true := ob_names
  have ht : ((D ++ Z).flatMap cellsM).take (m * 5) = D.flatMap cellsM := by rw [ob_take, List.take_append_of_le_length (by omega), List.take_of_length_le (by omega)]
  have hc : chunk 5 m (D.flatMap cellsM) = D.map encM := by rw [← hm]; exact chunk_flatMap (k := 5) (g := cellsM) (by decide) cellsM_len D
  unfold deepA
  simp only [h0, Bool.false_eq_true, if_false, hσ, hln, show 0 + m * 5 ≤ n * 5 by omega, and_self, if_true, deepL_pure hp, Bool.false_and, List.drop_zero, ht, hc, show (0 : Nat) < 5 by decide, cms, sv_lst]

theorem index_nil {c : Cm} {σ : Sto} (h0 : σ[0]? = some (.cells false (cellsM c))) {Q : Post3} {k : List Item} {os : List AOper} {d : Option Nat} {e : Env} :
    CallK T Q k os d e σ true i_slices_IndexFunc_Commit [.nils, .clo (.func i_escrow_Covered_1) [] [.ptr 0 5 0]] ↔ Run T Q (.ops os :: k) (put e d (.int .i64 (-1))) σ := by
  refine callK_live T_slices_IndexFunc_Commit (as := [.nils, .clo (.func i_escrow_Covered_1) [] [.fptr (cellsM c)]]) (slices_IndexFunc_M (f := .nil) (l := []) (c := c) (by simp)) ?_ (by simp [AVal.pures, AVal.namesL, AVal.names]) rfl
  have s2 := snap_cloM (n := 61) (f := .func i_escrow_Covered_1) h0
  have s1 : snapA σ 64 .nils = some .nils := snapA_step rfl
  rw [show snapDepth = 64 from rfl]
  simp only [List.mapM_cons, List.mapM_nil, s1, s2, Option.pure_def, Option.bind_eq_bind, Option.bind_some]
theorem delete_nil {c : Cm} {R : Post} : Cw T false i_slices_DeleteFunc_Commit [.nils, .clo (.func i_escrow_Covered_1) [] [.ptr 0 5 0]] [] [.cells false (cellsM c)] R ↔ R .nils [.cells false (cellsM c)] := by
  rw [cw_enter T_slices_DeleteFunc_Commit (by simp), run_unfold slices_DeleteFunc_Commit.main.eq_1]
  simp (maxSteps := 2000000) only [go_sem, ↓reduceIte, Nat.reduceLT, Nat.reduceEqDiff, Nat.reduceLeDiff, Nat.reduceAdd, Nat.reduceSub, Nat.reduceMul, Int.reduceLT, Int.reduceLE, Int.reduceEq, Int.reduceNeg]
  rw [index_nil rfl]
  simp (maxSteps := 2000000) only [go_sem, ↓reduceIte, Nat.reduceLT, Nat.reduceEqDiff, Nat.reduceLeDiff, Nat.reduceAdd, Nat.reduceSub, Nat.reduceMul, Int.reduceLT, Int.reduceLE, Int.reduceEq, Int.reduceNeg]
theorem sort_nil {σ : Sto} {R : Post} : Cw T false i_slices_SortStableFunc_Commit [.nils, .clo (.func i_escrow_Covered_2) [] []] [] σ R ↔ R (.tup []) σ := by
  have h1 : ∀ {R : Post}, Cw T false i_slices_insertionSortCmpFunc_Commit [.nils, .int .i64 0, .int .i64 0, .clo (.func i_escrow_Covered_2) [] []] [] σ R ↔ R (.tup []) σ := by
    intro R
    rw [cw_enter T_slices_insertionSortCmpFunc_Commit (by simp), run_unfold slices_insertionSortCmpFunc_Commit.main.eq_1]
    simp (maxSteps := 2000000) only [go_sem, ↓reduceIte, Nat.reduceLT, Nat.reduceEqDiff, Nat.reduceLeDiff, Nat.reduceAdd, Nat.reduceSub, Nat.reduceMul, Int.reduceLT, Int.reduceLE, Int.reduceEq, Int.reduceNeg]
    rw [run_round, run_unfold slices_insertionSortCmpFunc_Commit.b0.eq_1]
    simp (maxSteps := 2000000) only [go_sem, ↓reduceIte, Nat.reduceLT, Nat.reduceEqDiff, Nat.reduceLeDiff, Nat.reduceAdd, Nat.reduceSub, Nat.reduceMul, Int.reduceLT, Int.reduceLE, Int.reduceEq, Int.reduceNeg, run_unfold slices_insertionSortCmpFunc_Commit.c0.eq_1, run_unfold slices_insertionSortCmpFunc_Commit.c1.eq_1, slices_insertionSortCmpFunc_Commit.k0, slices_insertionSortCmpFunc_Commit.k1, w01]
  have h2 : ∀ {R : Post}, Cw T false i_slices_stableCmpFunc_Commit [.nils, .int .i64 0, .clo (.func i_escrow_Covered_2) [] []] [] σ R ↔ R (.tup []) σ := by
    intro R
    rw [cw_enter T_slices_stableCmpFunc_Commit (by simp), run_unfold slices_stableCmpFunc_Commit.main.eq_1]
    simp (maxSteps := 2000000) only [go_sem, ↓reduceIte, Nat.reduceLT, Nat.reduceEqDiff, Nat.reduceLeDiff, Nat.reduceAdd, Nat.reduceSub, Nat.reduceMul, Int.reduceLT, Int.reduceLE, Int.reduceEq, Int.reduceNeg]
    rw [run_round, run_unfold slices_stableCmpFunc_Commit.b0.eq_1]
    simp (maxSteps := 2000000) only [go_sem, ↓reduceIte, Nat.reduceLT, Nat.reduceEqDiff, Nat.reduceLeDiff, Nat.reduceAdd, Nat.reduceSub, Nat.reduceMul, Int.reduceLT, Int.reduceLE, Int.reduceEq, Int.reduceNeg, run_unfold slices_stableCmpFunc_Commit.c0.eq_1, run_unfold slices_stableCmpFunc_Commit.c1.eq_1, run_unfold slices_stableCmpFunc_Commit.c2.eq_1, run_unfold slices_stableCmpFunc_Commit.c3.eq_1, slices_stableCmpFunc_Commit.k0, slices_stableCmpFunc_Commit.k1, slices_stableCmpFunc_Commit.k2, callK_shared h1]
    rw [run_round, run_unfold slices_stableCmpFunc_Commit.b1.eq_1]
    simp (maxSteps := 2000000) only [go_sem, ↓reduceIte, Nat.reduceLT, Nat.reduceEqDiff, Nat.reduceLeDiff, Nat.reduceAdd, Nat.reduceSub, Nat.reduceMul, Int.reduceLT, Int.reduceLE, Int.reduceEq, Int.reduceNeg, run_unfold slices_stableCmpFunc_Commit.c0.eq_1, run_unfold slices_stableCmpFunc_Commit.c1.eq_1, run_unfold slices_stableCmpFunc_Commit.c2.eq_1, run_unfold slices_stableCmpFunc_Commit.c3.eq_1, slices_stableCmpFunc_Commit.k0, slices_stableCmpFunc_Commit.k1, slices_stableCmpFunc_Commit.k2]
  rw [cw_enter T_slices_SortStableFunc_Commit (by simp), run_unfold slices_SortStableFunc_Commit.main.eq_1]
  simp (maxSteps := 2000000) only [go_sem, ↓reduceIte, Nat.reduceLT, Nat.reduceEqDiff, Nat.reduceLeDiff, Nat.reduceAdd, Nat.reduceSub, Nat.reduceMul, Int.reduceLT, Int.reduceLE, Int.reduceEq, Int.reduceNeg, callK_shared h2]
theorem clone_nil {σ : Sto} {R : Post} : Cw T false i_slices_Clone_Commit [.nils] [] σ R ↔ R .nils σ := by
  rw [cw_enter T_slices_Clone_Commit (by simp), run_unfold slices_Clone_Commit.main.eq_1]
  simp (maxSteps := 2000000) only [go_sem, ↓reduceIte, Nat.reduceLT, Nat.reduceEqDiff, Nat.reduceLeDiff, Nat.reduceAdd, Nat.reduceSub, Nat.reduceMul, Int.reduceLT, Int.reduceLE, Int.reduceEq, Int.reduceNeg, show eqnilV false .sl .nils σ = some (.bool true, σ) from rfl]

theorem deep_nils {σ : Sto} : deepA 64 σ .nils = some (.nils, σ) := rfl

theorem escrow_Covered_nil {g : SlF} {s : List Int} {c : Cm} (hcc : Fits c.ops) {lv : List Nat} {σ : Sto} {R : Post} : Cw T true i_escrow_Covered [ints g s, .nils, encM c] lv σ R ↔ R (.bool (covP s [] c)) σ := by
  refine cw_intro T_escrow_Covered (by simp only [go_sem]) (by simp) ?_; rw [run_unfold escrow_Covered.main.eq_1]
  have pl := fun (Q : Post3) (k : List Item) (os : List AOper) (d : Option Nat) (e : Env) (σ : Sto) => escrow_Play_call (f := .nil) (g := g) (s := s) (l := []) (by simp) (by simp) (Q := Q) (k := k) (os := os) (d := d) (e := e) (σ := σ)
  simp only [cms, List.map_nil, sv_nil] at pl
  have hs : seenP [] c = [] := rfl
  unfold covP
  rw [hs]
  cases hp : doP (playL (stP s) []).1 c with
  | none => simp (maxSteps := 2000000) only [go_sem, ↓reduceIte, Nat.reduceLT, Nat.reduceEqDiff, Nat.reduceLeDiff, Nat.reduceAdd, Nat.reduceSub, Nat.reduceMul, Int.reduceLT, Int.reduceLE, Int.reduceEq, Int.reduceNeg, callK_shared clone_nil, callK_shared delete_nil, callK_shared sort_nil, deep_nils, pl, hcc, hp, gotA, Option.isSome_none]
  | some y => simp (maxSteps := 2000000) only [go_sem, ↓reduceIte, Nat.reduceLT, Nat.reduceEqDiff, Nat.reduceLeDiff, Nat.reduceAdd, Nat.reduceSub, Nat.reduceMul, Int.reduceLT, Int.reduceLE, Int.reduceEq, Int.reduceNeg, callK_shared clone_nil, callK_shared delete_nil, callK_shared sort_nil, deep_nils, pl, hcc, hp, gotA, Option.isSome_some]

theorem escrow_Covered_gen {f g : SlF} {s : List Int} {l : List Cm} {c : Cm} (hne : ∀ σ : Sto, eqnilV false .sl (cms f l) σ = some (.bool false, σ)) (hl : l.length ≤ 19) (hc : ∀ c ∈ l, Fits c.ops) (hcc : Fits c.ops) {lv : List Nat} {σ : Sto} {R : Post} : Cw T true i_escrow_Covered [ints g s, cms f l, encM c] lv σ R ↔ R (.bool (covP s l c)) σ := by
  refine cw_intro T_escrow_Covered (by simp only [go_sem]) (by simp) ?_; rw [run_unfold escrow_Covered.main.eq_1]
  have hK : (l.filter (sees2 c)).length ≤ l.length := List.length_filter_le ..
  have e1 : (l.filter (sees2 c)).length + (List.replicate (l.length - (l.filter (sees2 c)).length) z0).length = l.length := by rw [List.length_replicate]; omega
  have hcl := fun (Q : Post3) (k : List Item) (os : List AOper) (d : Option Nat) (e : Env) => callK_shared (T := T) (Q := Q) (k := k) (os := os) (d := d) (e := e) (fun {R} => clone_M (f := f) (l := l) (σ := [.cells false (cellsM c)]) (R := R) (hne _) (by omega))
  have hdl := fun (Q : Post3) (k : List Item) (os : List AOper) (d : Option Nat) (e : Env) => callK_shared (T := T) (Q := Q) (k := k) (os := os) (d := d) (e := e) (fun {R} => slices_DeleteFunc_M (c := c) (l := l) (R := R) (by omega))
  have hso := fun (Q : Post3) (k : List Item) (os : List AOper) (d : Option Nat) (e : Env) => callK_shared (T := T) (Q := Q) (k := k) (os := os) (d := d) (e := e) (fun {R} => sortStable_M (B := .cells false (cellsM c)) (D := l.filter (sees2 c)) (Z := List.replicate (l.length - (l.filter (sees2 c)).length) z0) (n := l.length) (m := (l.filter (sees2 c)).length) (R := R) rfl e1 hl)
  have hfz := fun (σ : Sto) (h : σ[1]? = some (ob (isort bef2 (l.filter (sees2 c)) ++ List.replicate (l.length - (l.filter (sees2 c)).length) z0))) => deep_pre (m := (l.filter (sees2 c)).length) (n := l.length) (by rw [isort_len]) e1 h
  have h1 : (seenP l c).length ≤ 1000000 := Nat.le_trans seenP_len (by omega)
  have h2 : ∀ x ∈ seenP l c, Fits x.ops := fun x hx => hc x (seenP_mem hx)
  have pl := fun (Q : Post3) (k : List Item) (os : List AOper) (d : Option Nat) (e : Env) (σ : Sto) => escrow_Play_call (f := .lst) (g := g) (s := s) (l := seenP l c) h1 h2 (Q := Q) (k := k) (os := os) (d := d) (e := e) (σ := σ)
  unfold covP
  unfold seenP at pl ⊢
  simp (maxSteps := 2000000) only [go_sem, ↓reduceIte, Nat.reduceLT, Nat.reduceEqDiff, Nat.reduceLeDiff, Nat.reduceAdd, Nat.reduceSub, Nat.reduceMul, Int.reduceLT, Int.reduceLE, Int.reduceEq, Int.reduceNeg, hcl, hdl, hso]
  refine afterG_of (hfz _ rfl) ?_
  cases hp : doP (playL (stP s) (isort bef2 (l.filter (sees2 c)))).1 c with
  | none => simp (maxSteps := 2000000) only [go_sem, ↓reduceIte, Nat.reduceLT, Nat.reduceEqDiff, Nat.reduceLeDiff, Nat.reduceAdd, Nat.reduceSub, Nat.reduceMul, Int.reduceLT, Int.reduceLE, Int.reduceEq, Int.reduceNeg, pl, hcc, hp, gotA, Option.isSome_none]
  | some y => simp (maxSteps := 2000000) only [go_sem, ↓reduceIte, Nat.reduceLT, Nat.reduceEqDiff, Nat.reduceLeDiff, Nat.reduceAdd, Nat.reduceSub, Nat.reduceMul, Int.reduceLT, Int.reduceLE, Int.reduceEq, Int.reduceNeg, pl, hcc, hp, gotA, Option.isSome_some]

theorem escrow_Covered_spec {f g : SlF} {s : List Int} {l : List Cm} {c : Cm} (hl : l.length ≤ 19) (hc : ∀ c ∈ l, Fits c.ops) (hcc : Fits c.ops) {lv : List Nat} {σ : Sto} {R : Post} : Cw T true i_escrow_Covered [ints g s, cms f l, encM c] lv σ R ↔ R (.bool (covP s l c)) σ := by
  cases l with
  | nil =>
    cases f with
    | nil => exact escrow_Covered_nil hcc
    | emp => exact escrow_Covered_gen (fun _ => rfl) hl hc hcc
    | lst => exact escrow_Covered_gen (fun _ => rfl) hl hc hcc
  | cons a l => exact escrow_Covered_gen (fun _ => eqnilV_sv (by simp)) hl hc hcc
@[go_sem] theorem escrow_Covered_call {f g : SlF} {s : List Int} {l : List Cm} {c : Cm} (hl : l.length ≤ 19) (hc : ∀ c ∈ l, Fits c.ops) (hcc : Fits c.ops) {Q : Post3} {k : List Item} {os : List AOper} {d : Option Nat} {e : Env} {σ : Sto} : CallK T Q k os d e σ true i_escrow_Covered [ints g s, cms f l, encM c] ↔ Run T Q (.ops os :: k) (put e d (.bool (covP s l c))) σ := escrow_Covered_spec hl hc hcc

end Go.Abs
