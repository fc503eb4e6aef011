/- Walks of chapter 20: the greatest closed cut of the reference; consistent lists. -/
import Derived.Test.YtaiibojjndeipaaC20G
set_option linter.all false
set_option linter.unusedSimpArgs false
set_option linter.unusedVariables false
namespace Go.Abs
open Go

def full (l : List Com) (c : List Int) (s : Nat) : Bool := !decide (((fit l c s : Nat) : Int) < c.getD s 0)
def closed (l : List Com) (c : List Int) : Bool := valid c && (List.range 6).all (full l c)

theorem range6_drop {i : Nat} (h : i < 6) : (List.range 6).drop i = i :: (List.range 6).drop (i + 1) := by
  have : i < (List.range 6).length := by simpa using h
  rw [List.drop_eq_getElem_cons this]; simp

theorem r20_Closed_loop {f g : SlF} {l : List Com} {c : List Int} (hl : Fits l) (hv : valid c = true) : ∀ i, i ≤ 6 →
    Run T (Res [.tmp 4] (.bool (((List.range 6).drop i).all (full l c)))) (.inLoop r20_Closed.b0 :: r20_Closed.k0) (mkE 24 [(0, coms f l), (1, ints g c), (5, .int .i64 i)]) [] := by
  have h6 := valid_len hv
  refine up_ind ?_ fun i hi ih => ?_
  · rw [run_round, run_unfold r20_Closed.b0.eq_1]
    simp (maxSteps := 2000000) only [go_sem, ↓reduceIte, Nat.reduceLT, Nat.reduceEqDiff, Nat.reduceLeDiff, Nat.reduceAdd, Nat.reduceSub, Nat.reduceMul, Int.reduceLT, Int.reduceLE, Int.reduceEq, Int.reduceNeg, run_unfold r20_Closed.c0.eq_1, run_unfold r20_Closed.c1.eq_1, r20_Closed.k0, h6, show (List.range 6).drop 6 = [] from rfl]
  · rw [run_round, run_unfold r20_Closed.b0.eq_1]
    rw [range6_drop hi]
    have h1 : i < c.length := by omega
    have hg : c.getD i 0 = c[i] := by rw [List.getD_eq_getElem?_getD, List.getElem?_eq_getElem h1]; rfl
    have hw := wrap_succ (show i < 9223372036854775807 by omega)
    by_cases h : ((fit l c i : Nat) : Int) < c[i]
    · simp (maxSteps := 2000000) only [go_sem, ↓reduceIte, Nat.reduceLT, Nat.reduceEqDiff, Nat.reduceLeDiff, Nat.reduceAdd, Nat.reduceSub, Nat.reduceMul, Int.reduceLT, Int.reduceLE, Int.reduceEq, Int.reduceNeg, hl, hv, hi, h1, full, hg, h]
    · simp (maxSteps := 2000000) only [go_sem, ↓reduceIte, Nat.reduceLT, Nat.reduceEqDiff, Nat.reduceLeDiff, Nat.reduceAdd, Nat.reduceSub, Nat.reduceMul, Int.reduceLT, Int.reduceLE, Int.reduceEq, Int.reduceNeg, hl, hv, hi, h1, full, hg, h, hw]
      exact ih

theorem r20_Closed_spec {f g : SlF} {l : List Com} {c : List Int} (hl : Fits l) {lv : List Nat} {σ : Sto} {R : Post} : Cw T true i_r20_Closed [coms f l, ints g c] lv σ R ↔ R (.bool (closed l c)) σ := by
  refine cw_intro T_r20_Closed (by simp only [go_sem]) (by simp) ?_; rw [run_unfold r20_Closed.main.eq_1]
  unfold closed
  cases hv : valid c
  case false => simp (maxSteps := 2000000) only [go_sem, ↓reduceIte, Nat.reduceLT, Nat.reduceEqDiff, Nat.reduceLeDiff, Nat.reduceAdd, Nat.reduceSub, Nat.reduceMul, Int.reduceLT, Int.reduceLE, Int.reduceEq, Int.reduceNeg, hv]
  simp (maxSteps := 2000000) only [go_sem, ↓reduceIte, Nat.reduceLT, Nat.reduceEqDiff, Nat.reduceLeDiff, Nat.reduceAdd, Nat.reduceSub, Nat.reduceMul, Int.reduceLT, Int.reduceLE, Int.reduceEq, Int.reduceNeg, hv]
  exact r20_Closed_loop hl hv 0 (by omega)
@[go_sem] theorem r20_Closed_call {f g : SlF} {l : List Com} {c : List Int} (hl : Fits l) {Q : Post3} {k : List Item} {os : List AOper} {d : Option Nat} {e : Env} {σ : Sto} : CallK T Q k os d e σ true i_r20_Closed [coms f l, ints g c] ↔ Run T Q (.ops os :: k) (put e d (.bool (closed l c))) σ := r20_Closed_spec hl


theorem lead_le (p : Nat → Bool) : ∀ d q, lead p q d ≤ q + d
  | 0, q => by simp [lead]
  | d + 1, q => by
    unfold lead
    split
    · have := lead_le p d (q + 1); omega
    · omega
theorem lead_ge (p : Nat → Bool) : ∀ d q, q ≤ lead p q d
  | 0, q => by simp [lead]
  | d + 1, q => by
    unfold lead
    split
    · have := lead_ge p d (q + 1); omega
    · omega
theorem fit_le {l : List Com} {c : List Int} {s : Nat} : fit l c s ≤ (c.getD s 0).toNat := by
  have := lead_le (okq l c s) (c.getD s 0).toNat 0
  unfold fit; omega

theorem valid_set {c : List Int} (h : valid c = true) {s : Nat} {v : Int} (h0 : 0 ≤ v) (h1 : v ≤ 999) : valid (c.set s v) = true := by
  simp only [valid, Bool.and_eq_true, decide_eq_true_eq, List.length_set, List.all_eq_true] at h ⊢
  refine ⟨h.1, fun x hx => ?_⟩
  rcases List.mem_or_eq_of_mem_set hx with hx | rfl
  · exact h.2 x hx
  · simp only [okSeq, Bool.and_eq_true, decide_eq_true_eq]; exact ⟨h0, h1⟩

/-- one pass of the reference: stations i, i + 1, .. -/
def pass (l : List Com) (o : List Int) (i : Nat) : Nat → List Int
  | 0 => o
  | d + 1 => pass l (o.set i (fit l o i : Nat)) (i + 1) d

theorem fit_small {l : List Com} {o : List Int} (h : valid o = true) {i : Nat} (hi : i < 6) : ((fit l o i : Nat) : Int) ≤ 999 := by
  obtain ⟨m, _, h2, h3⟩ := valid_get h (show i < o.length by rw [valid_len h]; exact hi)
  have := fit_le (l := l) (c := o) (s := i)
  omega

theorem pass_valid {l : List Com} : ∀ d i (o : List Int), i + d = 6 → valid o = true → valid (pass l o i d) = true
  | 0, i, o, _, h => h
  | d + 1, i, o, hd, h => pass_valid d (i + 1) _ (by omega) (valid_set h (by omega) (fit_small h (by omega)))

theorem r20_GreatestIn_pass {f : SlF} {l : List Com} {o0 : List Int} (hl : Fits l) {v : AVal}
    (hk : ∀ o : List Int, valid o = true → o = pass l o0 0 6 → Run T (Res [.cell 4 true 2] v) (.inLoop r20_GreatestIn.b0 :: r20_GreatestIn.k0) (mkE 33 [(0, coms f l), (4, .ptr 0 2 0), (5, .ref 1 6 0 6 1)]) [.cells false [.nils, .int .i64 0], .cells false (o.map fun n => .int .i64 n)]) :
    ∀ i, i ≤ 6 → ∀ o : List Int, valid o = true → pass l o i (6 - i) = pass l o0 0 6 →
    Run T (Res [.cell 4 true 2] v) (.inLoop r20_GreatestIn.b1 :: r20_GreatestIn.k1) (mkE 33 [(0, coms f l), (4, .ptr 0 2 0), (5, .ref 1 6 0 6 1), (6, .int .i64 i)]) [.cells false [.nils, .int .i64 0], .cells false (o.map fun n => .int .i64 n)] := by
  refine up_ind ?_ fun i hi ih o hv hp => ?_
  · intro o hv hp
    rw [run_round, run_unfold r20_GreatestIn.b1.eq_1]
    simp (maxSteps := 2000000) only [go_sem, ↓reduceIte, Nat.reduceLT, Nat.reduceEqDiff, Nat.reduceLeDiff, Nat.reduceAdd, Nat.reduceSub, Nat.reduceMul, Int.reduceLT, Int.reduceLE, Int.reduceEq, Int.reduceNeg, run_unfold r20_GreatestIn.c0.eq_1, r20_GreatestIn.k0, r20_GreatestIn.k1, valid_len hv]
    exact hk o hv hp
  · rw [run_round, run_unfold r20_GreatestIn.b1.eq_1]
    have ho := valid_len hv
    have h3 : i < o.length := by omega
    simp (maxSteps := 2000000) only [go_sem, ↓reduceIte, Nat.reduceLT, Nat.reduceEqDiff, Nat.reduceLeDiff, Nat.reduceAdd, Nat.reduceSub, Nat.reduceMul, Int.reduceLT, Int.reduceLE, Int.reduceEq, Int.reduceNeg, ho, hi, show ((i : Int) < 6) by omega]
    rw [callK_live T_r20_fits (as := [coms f l, ints .lst o, .int .i64 i]) (v := .int .i64 (fit l o i : Nat)) (r20_fits_spec hl hv hi) (by
      rw [mapM_scons, snapDepth_eq, snapA_step (by simp (maxSteps := 2000000) only [go_sem, ↓reduceIte, Nat.reduceLT, Nat.reduceEqDiff, Nat.reduceLeDiff, Nat.reduceAdd, Nat.reduceSub, Nat.reduceMul, Int.reduceLT, Int.reduceLE, Int.reduceEq, Int.reduceNeg]), mapM_scons, snap_lit (c := o) (by rfl) ho, mapM_scons, snapA_step (by simp (maxSteps := 2000000) only [go_sem, ↓reduceIte, Nat.reduceLT, Nat.reduceEqDiff, Nat.reduceLeDiff, Nat.reduceAdd, Nat.reduceSub, Nat.reduceMul, Int.reduceLT, Int.reduceLE, Int.reduceEq, Int.reduceNeg]), mapM_snil]) (by simp (maxSteps := 2000000) only [go_sem, ↓reduceIte, Nat.reduceLT, Nat.reduceEqDiff, Nat.reduceLeDiff, Nat.reduceAdd, Nat.reduceSub, Nat.reduceMul, Int.reduceLT, Int.reduceLE, Int.reduceEq, Int.reduceNeg]) rfl]
    simp (maxSteps := 2000000) only [go_sem, ↓reduceIte, Nat.reduceLT, Nat.reduceEqDiff, Nat.reduceLeDiff, Nat.reduceAdd, Nat.reduceSub, Nat.reduceMul, Int.reduceLT, Int.reduceLE, Int.reduceEq, Int.reduceNeg, ho, hi, h3, show i + 1 ≤ 6 by omega, wrap_succ (show i < 9223372036854775807 by omega)]
    refine ih _ (valid_set hv (by omega) (fit_small hv hi)) ?_
    rw [← hp, show 6 - i = (6 - (i + 1)) + 1 by omega, pass]

def gre (l : List Com) : Nat → List Int → List Int
  | 0, o => o
  | n + 1, o => if closed l o = true then o else gre l n (pass l o 0 6)

/-- numbers of commits in all -/
def total (o : List Int) : Nat := (o.map Int.toNat).sum

theorem total_set {o : List Int} {i : Nat} {v : Nat} (hi : i < o.length) : total (o.set i v) + (o.getD i 0).toNat = total o + v := by
  induction o generalizing i with
  | nil => simp at hi
  | cons x o ih =>
    cases i with
    | zero => simp [total]; omega
    | succ i =>
      have := ih (i := i) (by simpa using hi)
      simp [total] at this ⊢
      omega

theorem pass_total {l : List Com} : ∀ d i (o : List Int), i + d = 6 → valid o = true → total (pass l o i d) ≤ total o ∧ (total (pass l o i d) = total o → ∀ s, i ≤ s → s < 6 → full l o s = true)
  | 0, i, o, hd, h => ⟨Nat.le_refl _, fun _ s h1 h2 => by omega⟩
  | d + 1, i, o, hd, h => by
    have hi : i < o.length := by rw [valid_len h]; omega
    have hv := valid_set h (v := (fit l o i : Nat)) (s := i) (by omega) (fit_small h (by omega))
    obtain ⟨h1, h2⟩ := pass_total (l := l) d (i + 1) _ (by omega) hv
    have h3 := total_set (v := fit l o i) hi
    have h4 := fit_le (l := l) (c := o) (s := i)
    refine ⟨by unfold pass; omega, fun he s hs hs6 => ?_⟩
    unfold pass at he
    have h5 : fit l o i = (o.getD i 0).toNat := by omega
    have h6 : o.set i (fit l o i : Nat) = o := by
      obtain ⟨m, g1, g2, g3⟩ := valid_get h hi
      rw [h5, g3, ← g1]; exact List.set_getElem_self hi
    rw [h6] at h2 he
    by_cases hsi : s = i
    · subst hsi
      obtain ⟨m, g1, g2, g3⟩ := valid_get h hi
      have g4 : o.getD s 0 = o[s] := by rw [List.getD_eq_getElem?_getD, List.getElem?_eq_getElem hi]; rfl
      unfold full
      rw [h5, g3, g4, g1]; simp
    · exact h2 he s (by omega) hs6

theorem pass_less {l : List Com} {o : List Int} (hv : valid o = true) (hc : closed l o = false) : total (pass l o 0 6) < total o := by
  obtain ⟨h1, h2⟩ := pass_total (l := l) 6 0 o rfl hv
  rcases Nat.lt_or_ge (total (pass l o 0 6)) (total o) with h | h
  · exact h
  · exfalso
    have := h2 (by omega)
    have : closed l o = true := by
      unfold closed
      rw [hv, Bool.true_and, List.all_eq_true]
      intro s hs
      exact this s (by omega) (by simpa using hs)
    rw [hc] at this; simp at this

theorem r20_GreatestIn_loop {f : SlF} {l : List Com} (hl : Fits l) : ∀ n (o : List Int), valid o = true → total o < n →
    Run T (Res [.cell 4 true 2] (.agg [ints .lst (gre l n o), .int .i64 0])) (.inLoop r20_GreatestIn.b0 :: r20_GreatestIn.k0) (mkE 33 [(0, coms f l), (4, .ptr 0 2 0), (5, .ref 1 6 0 6 1)]) [.cells false [.nils, .int .i64 0], .cells false (o.map fun n => .int .i64 n)] := by
  intro n
  induction n with
  | zero => intro o _ h; omega
  | succ n ih =>
    intro o hv hn
    have ho := valid_len hv
    rw [run_round, run_unfold r20_GreatestIn.b0.eq_1]
    simp (maxSteps := 2000000) only [go_sem, ↓reduceIte, Nat.reduceLT, Nat.reduceEqDiff, Nat.reduceLeDiff, Nat.reduceAdd, Nat.reduceSub, Nat.reduceMul, Int.reduceLT, Int.reduceLE, Int.reduceEq, Int.reduceNeg, ho]
    rw [callK_live T_r20_Closed (as := [coms f l, ints .lst o]) (v := .bool (closed l o)) (r20_Closed_spec hl) (by
      rw [mapM_scons, snapDepth_eq, snapA_step (by simp (maxSteps := 2000000) only [go_sem, ↓reduceIte, Nat.reduceLT, Nat.reduceEqDiff, Nat.reduceLeDiff, Nat.reduceAdd, Nat.reduceSub, Nat.reduceMul, Int.reduceLT, Int.reduceLE, Int.reduceEq, Int.reduceNeg]), mapM_scons, snap_lit (c := o) (by rfl) ho, mapM_snil]) (by simp (maxSteps := 2000000) only [go_sem, ↓reduceIte, Nat.reduceLT, Nat.reduceEqDiff, Nat.reduceLeDiff, Nat.reduceAdd, Nat.reduceSub, Nat.reduceMul, Int.reduceLT, Int.reduceLE, Int.reduceEq, Int.reduceNeg]) rfl]
    cases hc : closed l o
    · simp (maxSteps := 2000000) only [go_sem, ↓reduceIte, Nat.reduceLT, Nat.reduceEqDiff, Nat.reduceLeDiff, Nat.reduceAdd, Nat.reduceSub, Nat.reduceMul, Int.reduceLT, Int.reduceLE, Int.reduceEq, Int.reduceNeg, hc, gre]
      refine r20_GreatestIn_pass hl (fun o' hv' he => ?_) 0 (by omega) o hv rfl
      rw [← he]
      exact ih o' hv' (by rw [he]; have := pass_less hv hc; omega)
    · simp (maxSteps := 2000000) only [go_sem, ↓reduceIte, Nat.reduceLT, Nat.reduceEqDiff, Nat.reduceLeDiff, Nat.reduceAdd, Nat.reduceSub, Nat.reduceMul, Int.reduceLT, Int.reduceLE, Int.reduceEq, Int.reduceNeg, hc, gre, run_unfold r20_GreatestIn.c0.eq_1, r20_GreatestIn.k0, r20_GreatestIn.k1, ho]
      rw [show (6 : Nat) = o.length from ho.symm, snap_ints (by rfl)]
      simp (maxSteps := 2000000) only [go_sem, ↓reduceIte, Nat.reduceLT, Nat.reduceEqDiff, Nat.reduceLeDiff, Nat.reduceAdd, Nat.reduceSub, Nat.reduceMul, Int.reduceLT, Int.reduceLE, Int.reduceEq, Int.reduceNeg]

theorem total_le {o : List Int} (h : valid o = true) : total o < 6000 := by
  have h6 := valid_len h
  have hs : ∀ l : List Int, (∀ x ∈ l, x.toNat ≤ 999) → total l ≤ l.length * 999 := by
    intro l
    induction l with
    | nil => intro _; simp [total]
    | cons x l ih =>
      intro hx
      have h1 := hx x (by simp)
      have h2 := ih fun y hy => hx y (by simp [hy])
      simp [total] at h2 ⊢
      omega
  have := hs o fun x hx => by
    simp only [valid, Bool.and_eq_true, List.all_eq_true] at h
    have := h.2 x hx
    simp only [okSeq, Bool.and_eq_true, decide_eq_true_eq] at this
    omega
  omega

def greatest (l : List Com) (c : List Int) : Cut := if valid c = true then ⟨.lst, gre l 6000 c, 0⟩ else ⟨.nil, [], 200⟩

theorem r20_GreatestIn_spec {f g : SlF} {l : List Com} {c : List Int} (hl : Fits l) {lv : List Nat} {σ : Sto} {R : Post} : Cw T true i_r20_GreatestIn [coms f l, ints g c] lv σ R ↔ R (encU (greatest l c)) σ := by
  refine cw_intro T_r20_GreatestIn (by simp only [go_sem]) (by simp) ?_; rw [run_unfold r20_GreatestIn.main.eq_1]
  unfold greatest
  cases hv : valid c
  case false => simp (maxSteps := 2000000) only [go_sem, ↓reduceIte, Nat.reduceLT, Nat.reduceEqDiff, Nat.reduceLeDiff, Nat.reduceAdd, Nat.reduceSub, Nat.reduceMul, Int.reduceLT, Int.reduceLE, Int.reduceEq, Int.reduceNeg, hv, encU]
  have h6 := valid_len hv
  simp (maxSteps := 2000000) only [go_sem, ↓reduceIte, Nat.reduceLT, Nat.reduceEqDiff, Nat.reduceLeDiff, Nat.reduceAdd, Nat.reduceSub, Nat.reduceMul, Int.reduceLT, Int.reduceLE, Int.reduceEq, Int.reduceNeg, hv]
  rw [appendV_fresh (by rfl) rowOf_ints (by simp) (by decide) (by simp [AVal.one]) (by unfold maxBytes; omega)]
  simp (maxSteps := 2000000) only [go_sem, ↓reduceIte, Nat.reduceLT, Nat.reduceEqDiff, Nat.reduceLeDiff, Nat.reduceAdd, Nat.reduceSub, Nat.reduceMul, Int.reduceLT, Int.reduceLE, Int.reduceEq, Int.reduceNeg, h6]
  exact r20_GreatestIn_loop hl 6000 c hv (total_le hv)
@[go_sem] theorem r20_GreatestIn_call {f g : SlF} {l : List Com} {c : List Int} (hl : Fits l) {Q : Post3} {k : List Item} {os : List AOper} {d : Option Nat} {e : Env} {σ : Sto} : CallK T Q k os d e σ true i_r20_GreatestIn [coms f l, ints g c] ↔ Run T Q (.ops os :: k) (put e d (encU (greatest l c))) σ := r20_GreatestIn_spec hl


end Go.Abs
