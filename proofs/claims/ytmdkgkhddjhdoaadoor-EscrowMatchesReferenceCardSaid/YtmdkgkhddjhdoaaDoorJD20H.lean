/- Parts of the proof: D20H, D20I. -/
import Derived.Test.YtmdkgkhddjhdoaaDoorJD20A
set_option linter.all false
/- Walks of chapter 20: the greatest closed cut of the reference; consistent lists. -/
set_option linter.unusedSimpArgs false
set_option linter.unusedVariables false
namespace Go.Abs
open Go

def full (l : List Com) (c : List Int) (s : Nat) : Bool := !decide (((fit l c s : Nat) : Int) < c.getD s 0)
def closed (l : List Com) (c : List Int) : Bool := valid c && (List.range 6).all (full l c)

theorem range6_drop {i : Nat} (h : i < 6) : (List.range 6).drop i = i :: (List.range 6).drop (i + 1) := by
  have : i < (List.range 6).length := by simpa using h
  rw [List.drop_eq_getElem_cons this]; simp

theorem r20_Closed_loop {f g : SlF} {l : List Com} {c : List Int} (hl : Fits l) (hv : valid c = true) : ∀ i, i ≤ 6 →
    Run T (Res [.tmp 4] (.bool (((List.range 6).drop i).all (full l c)))) (.inLoop r20_Closed.b0 :: r20_Closed.k0) (mkE 24 [(0, coms f l), (1, ints g c), (5, .int .i64 i)]) [] := by
  have h6 := valid_len hv
  refine up_ind ?_ fun i hi ih => ?_
  · rw [run_round, run_unfold r20_Closed.b0.eq_1]
    simp (maxSteps := 2000000) only [go_sem, ↓reduceIte, Nat.reduceLT, Nat.reduceEqDiff, Nat.reduceLeDiff, Nat.reduceAdd, Nat.reduceSub, Nat.reduceMul, Int.reduceLT, Int.reduceLE, Int.reduceEq, Int.reduceNeg, run_unfold r20_Closed.c0.eq_1, run_unfold r20_Closed.c1.eq_1, r20_Closed.k0, h6, show (List.range 6).drop 6 = [] from rfl]
  · rw [run_round, run_unfold r20_Closed.b0.eq_1]
    rw [range6_drop hi]
    have h1 : i < c.length := by omega
    have hg : c.getD i 0 = c[i] := by rw [List.getD_eq_getElem?_getD, List.getElem?_eq_getElem h1]; rfl
    have hw := wrap_succ (show i < 9223372036854775807 by omega)
    by_cases h : ((fit l c i : Nat) : Int) < c[i]
    · simp (maxSteps := 2000000) only [go_sem, ↓reduceIte, Nat.reduceLT, Nat.reduceEqDiff, Nat.reduceLeDiff, Nat.reduceAdd, Nat.reduceSub, Nat.reduceMul, Int.reduceLT, Int.reduceLE, Int.reduceEq, Int.reduceNeg, hl, hv, hi, h1, full, hg, h]
    · simp (maxSteps := 2000000) only [go_sem, ↓reduceIte, Nat.reduceLT, Nat.reduceEqDiff, Nat.reduceLeDiff, Nat.reduceAdd, Nat.reduceSub, Nat.reduceMul, Int.reduceLT, Int.reduceLE, Int.reduceEq, Int.reduceNeg, hl, hv, hi, h1, full, hg, h, hw]
      exact ih

theorem r20_Closed_spec {f g : SlF} {l : List Com} {c : List Int} (hl : Fits l) {lv : List Nat} {σ : Sto} {R : Post} : Cw T true i_r20_Closed [coms f l, ints g c] lv σ R ↔ R (.bool (closed l c)) σ := by
  refine cw_intro T_r20_Closed (by simp only [go_sem]) (by simp) ?_; rw [run_unfold r20_Closed.main.eq_1]
  unfold closed
  cases hv : valid c
  case false => simp (maxSteps := 2000000) only [go_sem, ↓reduceIte, Nat.reduceLT, Nat.reduceEqDiff, Nat.reduceLeDiff, Nat.reduceAdd, Nat.reduceSub, Nat.reduceMul, Int.reduceLT, Int.reduceLE, Int.reduceEq, Int.reduceNeg, hv]
  simp (maxSteps := 2000000) only [go_sem, ↓reduceIte, Nat.reduceLT, Nat.reduceEqDiff, Nat.reduceLeDiff, Nat.reduceAdd, Nat.reduceSub, Nat.reduceMul, Int.reduceLT, Int.reduceLE, Int.reduceEq, Int.reduceNeg, hv]
  exact r20_Closed_loop hl hv 0 (by omega)
@[go_sem] theorem r20_Closed_call {f g : SlF} {l : List Com} {c : List Int} (hl : Fits l) {Q : Post3} {k : List Item} {os : List AOper} {d : Option Nat} {e : Env} {σ : Sto} : CallK T Q k os d e σ true i_r20_Closed [coms f l, ints g c] ↔ Run T Q (.ops os :: k) (put e d (.bool (closed l c))) σ := r20_Closed_spec hl


theorem lead_le (p : Nat → Bool) : ∀ d q, lead p q d ≤ q + d
  | 0, q => by simp [lead]
  | d + 1, q => by
    unfold lead
    split
    · have := lead_le p d (q + 1); omega
    · omega
theorem lead_ge (p : Nat → Bool) : ∀ d q, q ≤ lead p q d
  | 0, q => by simp [lead]
  | d + 1, q => by
    unfold lead
    split
    · have := lead_ge p d (q + 1); omega
    · omega
theorem fit_le {l : List Com} {c : List Int} {s : Nat} : fit l c s ≤ (c.getD s 0).toNat := by
  have := lead_le (okq l c s) (c.getD s 0).toNat 0
  unfold fit; omega

theorem valid_set {c : List Int} (h : valid c = true) {s : Nat} {v : Int} (h0 : 0 ≤ v) (h1 : v ≤ 999) : valid (c.set s v) = true := by
  simp only [valid, Bool.and_eq_true, decide_eq_true_eq, List.length_set, List.all_eq_true] at h ⊢
  refine ⟨h.1, fun x hx => ?_⟩
  rcases List.mem_or_eq_of_mem_set hx with hx | rfl
  · exact h.2 x hx
  · simp only [okSeq, Bool.and_eq_true, decide_eq_true_eq]; exact ⟨h0, h1⟩

/-- one pass of the reference: stations i, i + 1, .. -/
def pass (l : List Com) (o : List Int) (i : Nat) : Nat → List Int
  | 0 => o
  | d + 1 => pass l (o.set i (fit l o i : Nat)) (i + 1) d

theorem fit_small {l : List Com} {o : List Int} (h : valid o = true) {i : Nat} (hi : i < 6) : ((fit l o i : Nat) : Int) ≤ 999 := by
  obtain ⟨m, _, h2, h3⟩ := valid_get h (show i < o.length by rw [valid_len h]; exact hi)
  have := fit_le (l := l) (c := o) (s := i)
  omega

theorem pass_valid {l : List Com} : ∀ d i (o : List Int), i + d = 6 → valid o = true → valid (pass l o i d) = true
  | 0, i, o, _, h => h
  | d + 1, i, o, hd, h => pass_valid d (i + 1) _ (by omega) (valid_set h (by omega) (fit_small h (by omega)))

theorem r20_GreatestIn_pass {f : SlF} {l : List Com} {o0 : List Int} (hl : Fits l) {v : AVal}
    (hk : ∀ o : List Int, valid o = true → o = pass l o0 0 6 → Run T (Res [.cell 4 true 2] v) (.inLoop r20_GreatestIn.b0 :: r20_GreatestIn.k0) (mkE 33 [(0, coms f l), (4, .ptr 0 2 0), (5, .ref 1 6 0 6 1)]) [.cells false [.nils, .int .i64 0], .cells false (o.map fun n => .int .i64 n)]) :
    ∀ i, i ≤ 6 → ∀ o : List Int, valid o = true → pass l o i (6 - i) = pass l o0 0 6 →
    Run T (Res [.cell 4 true 2] v) (.inLoop r20_GreatestIn.b1 :: r20_GreatestIn.k1) (mkE 33 [(0, coms f l), (4, .ptr 0 2 0), (5, .ref 1 6 0 6 1), (6, .int .i64 i)]) [.cells false [.nils, .int .i64 0], .cells false (o.map fun n => .int .i64 n)] := by
  refine up_ind ?_ fun i hi ih o hv hp => ?_
  · intro o hv hp
    rw [run_round, run_unfold r20_GreatestIn.b1.eq_1]
    simp (maxSteps := 2000000) only [go_sem, ↓reduceIte, Nat.reduceLT, Nat.reduceEqDiff, Nat.reduceLeDiff, Nat.reduceAdd, Nat.reduceSub, Nat.reduceMul, Int.reduceLT, Int.reduceLE, Int.reduceEq, Int.reduceNeg, run_unfold r20_GreatestIn.c0.eq_1, r20_GreatestIn.k0, r20_GreatestIn.k1, valid_len hv]
    exact hk o hv hp
  · rw [run_round, run_unfold r20_GreatestIn.b1.eq_1]
    have ho := valid_len hv
    have h3 : i < o.length := by omega
    simp (maxSteps := 2000000) only [go_sem, ↓reduceIte, Nat.reduceLT, Nat.reduceEqDiff, Nat.reduceLeDiff, Nat.reduceAdd, Nat.reduceSub, Nat.reduceMul, Int.reduceLT, Int.reduceLE, Int.reduceEq, Int.reduceNeg, ho, hi, show ((i : Int) < 6) by omega]
    rw [callK_live T_r20_fits (as := [coms f l, ints .lst o, .int .i64 i]) (v := .int .i64 (fit l o i : Nat)) (r20_fits_spec hl hv hi) (by
      rw [mapM_scons, snapDepth_eq, snapA_step (by simp (maxSteps := 2000000) only [go_sem, ↓reduceIte, Nat.reduceLT, Nat.reduceEqDiff, Nat.reduceLeDiff, Nat.reduceAdd, Nat.reduceSub, Nat.reduceMul, Int.reduceLT, Int.reduceLE, Int.reduceEq, Int.reduceNeg]), mapM_scons, snap_lit (c := o) (by rfl) ho, mapM_scons, snapA_step (by simp (maxSteps := 2000000) only [go_sem, ↓reduceIte, Nat.reduceLT, Nat.reduceEqDiff, Nat.reduceLeDiff, Nat.reduceAdd, Nat.reduceSub, Nat.reduceMul, Int.reduceLT, Int.reduceLE, Int.reduceEq, Int.reduceNeg]), mapM_snil]) (by simp (maxSteps := 2000000) only [go_sem, ↓reduceIte, Nat.reduceLT, Nat.reduceEqDiff, Nat.reduceLeDiff, Nat.reduceAdd, Nat.reduceSub, Nat.reduceMul, Int.reduceLT, Int.reduceLE, Int.reduceEq, Int.reduceNeg]) rfl]
    simp (maxSteps := 2000000) only [go_sem, ↓reduceIte, Nat.reduceLT, Nat.reduceEqDiff, Nat.reduceLeDiff, Nat.reduceAdd, Nat.reduceSub, Nat.reduceMul, Int.reduceLT, Int.reduceLE, Int.reduceEq, Int.reduceNeg, ho, hi, h3, show i + 1 ≤ 6 by omega, wrap_succ (show i < 9223372036854775807 by omega)]
    refine ih _ (valid_set hv (by omega) (fit_small hv hi)) ?_
    rw [← hp, show 6 - i = (6 - (i + 1)) + 1 by omega, pass]

def gre (l : List Com) : Nat → List Int → List Int
  | 0, o => o
  | n + 1, o => if closed l o = true then o else gre l n (pass l o 0 6)

/-- numbers of commits in all -/
def total (o : List Int) : Nat := (o.map Int.toNat).sum

theorem total_set {o : List Int} {i : Nat} {v : Nat} (hi : i < o.length) : total (o.set i v) + (o.getD i 0).toNat = total o + v := by
  induction o generalizing i with
  | nil => simp at hi
  | cons x o ih =>
    cases i with
    | zero => simp [total]; omega
    | succ i =>
      have := ih (i := i) (by simpa using hi)
      simp [total] at this ⊢
      omega

theorem pass_total {l : List Com} : ∀ d i (o : List Int), i + d = 6 → valid o = true → total (pass l o i d) ≤ total o ∧ (total (pass l o i d) = total o → ∀ s, i ≤ s → s < 6 → full l o s = true)
  | 0, i, o, hd, h => ⟨Nat.le_refl _, fun _ s h1 h2 => by omega⟩
  | d + 1, i, o, hd, h => by
    have hi : i < o.length := by rw [valid_len h]; omega
    have hv := valid_set h (v := (fit l o i : Nat)) (s := i) (by omega) (fit_small h (by omega))
    obtain ⟨h1, h2⟩ := pass_total (l := l) d (i + 1) _ (by omega) hv
    have h3 := total_set (v := fit l o i) hi
    have h4 := fit_le (l := l) (c := o) (s := i)
    refine ⟨by unfold pass; omega, fun he s hs hs6 => ?_⟩
    unfold pass at he
    have h5 : fit l o i = (o.getD i 0).toNat := by omega
    have h6 : o.set i (fit l o i : Nat) = o := by
      obtain ⟨m, g1, g2, g3⟩ := valid_get h hi
      rw [h5, g3, ← g1]; exact List.set_getElem_self hi
    rw [h6] at h2 he
    by_cases hsi : s = i
    · subst hsi
      obtain ⟨m, g1, g2, g3⟩ := valid_get h hi
      have g4 : o.getD s 0 = o[s] := by rw [List.getD_eq_getElem?_getD, List.getElem?_eq_getElem hi]; rfl
      unfold full
      rw [h5, g3, g4, g1]; simp
    · exact h2 he s (by omega) hs6

theorem pass_less {l : List Com} {o : List Int} (hv : valid o = true) (hc : closed l o = false) : total (pass l o 0 6) < total o := by
  obtain ⟨h1, h2⟩ := pass_total (l := l) 6 0 o rfl hv
  rcases Nat.lt_or_ge (total (pass l o 0 6)) (total o) with h | h
  · exact h
  · exfalso
    have := h2 (by omega)
    have : closed l o = true := by
      unfold closed
      rw [hv, Bool.true_and, List.all_eq_true]
      intro s hs
      exact this s (by omega) (by simpa using hs)
    rw [hc] at this; simp at this

theorem r20_GreatestIn_loop {f : SlF} {l : List Com} (hl : Fits l) : ∀ n (o : List Int), valid o = true → total o < n →
    Run T (Res [.cell 4 true 2] (.agg [ints .lst (gre l n o), .int .i64 0])) (.inLoop r20_GreatestIn.b0 :: r20_GreatestIn.k0) (mkE 33 [(0, coms f l), (4, .ptr 0 2 0), (5, .ref 1 6 0 6 1)]) [.cells false [.nils, .int .i64 0], .cells false (o.map fun n => .int .i64 n)] := by
  intro n
  induction n with
  | zero => intro o _ h; omega
  | succ n ih =>
    intro o hv hn
    have ho := valid_len hv
    rw [run_round, run_unfold r20_GreatestIn.b0.eq_1]
    simp (maxSteps := 2000000) only [go_sem, ↓reduceIte, Nat.reduceLT, Nat.reduceEqDiff, Nat.reduceLeDiff, Nat.reduceAdd, Nat.reduceSub, Nat.reduceMul, Int.reduceLT, Int.reduceLE, Int.reduceEq, Int.reduceNeg, ho]
    rw [callK_live T_r20_Closed (as := [coms f l, ints .lst o]) (v := .bool (closed l o)) (r20_Closed_spec hl) (by
      rw [mapM_scons, snapDepth_eq, snapA_step (by simp (maxSteps := 2000000) only [go_sem, ↓reduceIte, Nat.reduceLT, Nat.reduceEqDiff, Nat.reduceLeDiff, Nat.reduceAdd, Nat.reduceSub, Nat.reduceMul, Int.reduceLT, Int.reduceLE, Int.reduceEq, Int.reduceNeg]), mapM_scons, snap_lit (c := o) (by rfl) ho, mapM_snil]) (by simp (maxSteps := 2000000) only [go_sem, ↓reduceIte, Nat.reduceLT, Nat.reduceEqDiff, Nat.reduceLeDiff, Nat.reduceAdd, Nat.reduceSub, Nat.reduceMul, Int.reduceLT, Int.reduceLE, Int.reduceEq, Int.reduceNeg]) rfl]
    cases hc : closed l o
    · simp (maxSteps := 2000000) only [go_sem, ↓reduceIte, Nat.reduceLT, Nat.reduceEqDiff, Nat.reduceLeDiff, Nat.reduceAdd, Nat.reduceSub, Nat.reduceMul, Int.reduceLT, Int.reduceLE, Int.reduceEq, Int.reduceNeg, hc, gre]
      refine r20_GreatestIn_pass hl (fun o' hv' he => ?_) 0 (by omega) o hv rfl
      rw [← he]
      exact ih o' hv' (by rw [he]; have := pass_less hv hc; omega)
    · simp (maxSteps := 2000000) only [go_sem, ↓reduceIte, Nat.reduceLT, Nat.reduceEqDiff, Nat.reduceLeDiff, Nat.reduceAdd, Nat.reduceSub, Nat.reduceMul, Int.reduceLT, Int.reduceLE, Int.reduceEq, Int.reduceNeg, hc, gre, run_unfold r20_GreatestIn.c0.eq_1, r20_GreatestIn.k0, r20_GreatestIn.k1, ho]
      rw [show (6 : Nat) = o.length from ho.symm, snap_ints (by rfl)]
      simp (maxSteps := 2000000) only [go_sem, ↓reduceIte, Nat.reduceLT, Nat.reduceEqDiff, Nat.reduceLeDiff, Nat.reduceAdd, Nat.reduceSub, Nat.reduceMul, Int.reduceLT, Int.reduceLE, Int.reduceEq, Int.reduceNeg]

theorem total_le {o : List Int} (h : valid o = true) : total o < 6000 := by
  have h6 := valid_len h
  have hs : ∀ l : List Int, (∀ x ∈ l, x.toNat ≤ 999) → total l ≤ l.length * 999 := by
    intro l
    induction l with
    | nil => intro _; simp [total]
    | cons x l ih =>
      intro hx
      have h1 := hx x (by simp)
      have h2 := ih fun y hy => hx y (by simp [hy])
      simp [total] at h2 ⊢
      omega
  have := hs o fun x hx => by
    simp only [valid, Bool.and_eq_true, List.all_eq_true] at h
    have := h.2 x hx
    simp only [okSeq, Bool.and_eq_true, decide_eq_true_eq] at this
    omega
  omega

def greatest (l : List Com) (c : List Int) : Cut := if valid c = true then ⟨.lst, gre l 6000 c, 0⟩ else ⟨.nil, [], 200⟩

theorem r20_GreatestIn_spec {f g : SlF} {l : List Com} {c : List Int} (hl : Fits l) {lv : List Nat} {σ : Sto} {R : Post} : Cw T true i_r20_GreatestIn [coms f l, ints g c] lv σ R ↔ R (encU (greatest l c)) σ := by
  refine cw_intro T_r20_GreatestIn (by simp only [go_sem]) (by simp) ?_; rw [run_unfold r20_GreatestIn.main.eq_1]
  unfold greatest
  cases hv : valid c
  case false => simp (maxSteps := 2000000) only [go_sem, ↓reduceIte, Nat.reduceLT, Nat.reduceEqDiff, Nat.reduceLeDiff, Nat.reduceAdd, Nat.reduceSub, Nat.reduceMul, Int.reduceLT, Int.reduceLE, Int.reduceEq, Int.reduceNeg, hv, encU]
  have h6 := valid_len hv
  simp (maxSteps := 2000000) only [go_sem, ↓reduceIte, Nat.reduceLT, Nat.reduceEqDiff, Nat.reduceLeDiff, Nat.reduceAdd, Nat.reduceSub, Nat.reduceMul, Int.reduceLT, Int.reduceLE, Int.reduceEq, Int.reduceNeg, hv]
  rw [appendV_fresh (by rfl) rowOf_ints (by simp) (by decide) (by simp [AVal.one]) (by unfold maxBytes; omega)]
  simp (maxSteps := 2000000) only [go_sem, ↓reduceIte, Nat.reduceLT, Nat.reduceEqDiff, Nat.reduceLeDiff, Nat.reduceAdd, Nat.reduceSub, Nat.reduceMul, Int.reduceLT, Int.reduceLE, Int.reduceEq, Int.reduceNeg, h6]
  exact r20_GreatestIn_loop hl 6000 c hv (total_le hv)
@[go_sem] theorem r20_GreatestIn_call {f g : SlF} {l : List Com} {c : List Int} (hl : Fits l) {Q : Post3} {k : List Item} {os : List AOper} {d : Option Nat} {e : Env} {σ : Sto} : CallK T Q k os d e σ true i_r20_GreatestIn [coms f l, ints g c] ↔ Run T Q (.ops os :: k) (put e d (encU (greatest l c))) σ := r20_GreatestIn_spec hl


end Go.Abs
/- Walks of chapter 20: what the reference makes of bytes. -/
set_option linter.unusedSimpArgs false
set_option linter.unusedVariables false
namespace Go.Abs
open Go

def cutOfL (l : List Com) (b : List Nat) : List Int := gre l 6000 (if b.length = 0 then [999, 999, 999, 999, 999, 999] else limit b)

theorem valid_all : valid [999, 999, 999, 999, 999, 999] = true := by decide
theorem limF_small : ∀ (b : List Nat) (o : List Int), (∀ x ∈ o, okSeq x = true) → ∀ x ∈ limF b o, okSeq x = true
  | _, [], _, x, h => by simp [limF] at h
  | [], y :: o, ho, x, h => ho x h
  | n :: b, y :: o, ho, x, h => by
    simp only [limF, List.mem_cons] at h
    rcases h with rfl | h
    · have : n % 6 < 6 := Nat.mod_lt _ (by decide)
      simp only [okSeq, Bool.and_eq_true, decide_eq_true_eq]; omega
    · exact limF_small b o (fun z hz => ho z (by simp [hz])) x h
theorem valid_limit (b : List Nat) : valid (limit b) = true := by
  simp only [valid, Bool.and_eq_true, decide_eq_true_eq, List.all_eq_true]
  exact ⟨by unfold limit; rw [limF_len]; rfl, limF_small b zeros (by decide)⟩

theorem r20_CutOf_spec {f g : SlF} {l : List Com} {b : List Nat} (hl : Fits l) (hb : Fits b) {lv : List Nat} {σ : Sto} {R : Post} : Cw T true i_r20_CutOf [coms f l, bytesV g b] lv σ R ↔ R (ints .lst (cutOfL l b)) σ := by
  refine cw_intro T_r20_CutOf (by simp only [go_sem]) (by simp) ?_; rw [run_unfold r20_CutOf.main.eq_1]
  unfold cutOfL
  by_cases h : b.length = 0
  · simp (maxSteps := 2000000) only [go_sem, ↓reduceIte, Nat.reduceLT, Nat.reduceEqDiff, Nat.reduceLeDiff, Nat.reduceAdd, Nat.reduceSub, Nat.reduceMul, Int.reduceLT, Int.reduceLE, Int.reduceEq, Int.reduceNeg, h, hl, greatest, valid_all]
  · have h' : ¬ ((b.length : Int) = 0) := by omega
    simp (maxSteps := 2000000) only [go_sem, ↓reduceIte, Nat.reduceLT, Nat.reduceEqDiff, Nat.reduceLeDiff, Nat.reduceAdd, Nat.reduceSub, Nat.reduceMul, Int.reduceLT, Int.reduceLE, Int.reduceEq, Int.reduceNeg, h, h', hl, hb, greatest, valid_limit]
@[go_sem] theorem r20_CutOf_call {f g : SlF} {l : List Com} {b : List Nat} (hl : Fits l) (hb : Fits b) {Q : Post3} {k : List Item} {os : List AOper} {d : Option Nat} {e : Env} {σ : Sto} : CallK T Q k os d e σ true i_r20_CutOf [coms f l, bytesV g b] ↔ Run T Q (.ops os :: k) (put e d (ints .lst (cutOfL l b))) σ := r20_CutOf_spec hl hb


/-! ### Headers -/
def mkCom (st seq : Int) (past : List Int) : Com := ⟨st, seq, .lst, past, 0, .nils, rfl, rfl⟩
structure HS where
  out : List Com
  K : List (List Int)
def hjoin (K : List (List Int)) (s t u : Nat) : List (List Int) := if 0 < u then K.set s (maxL (K.getD s []) (K.getD t [])) else K
def hcom (K : List (List Int)) (s : Nat) : Com := mkCom s ((K.getD s []).getD s 0 + 1) (K.getD s [])
def hnext (x : HS) (s t u : Nat) : HS := ⟨x.out ++ [hcom (hjoin x.K s t u) s], (hjoin x.K s t u).set s (own (hcom (hjoin x.K s t u) s))⟩
def hstep (x : HS) (b : Nat) : HS := hnext x (b % 3) (b / 3 % 3) (b / 9 % 3)
def headers (b : List Nat) : List Com := ((b.take 12).foldl hstep ⟨[], [zeros, zeros, zeros]⟩).out

/-- what holds of the stations' knowledge after n commits -/
structure HInv (n : Nat) (K : List (List Int)) : Prop where
  len : K.length = 3
  row : ∀ a ∈ K, a.length = 6 ∧ ∀ x ∈ a, 0 ≤ x ∧ x ≤ (n : Int)

theorem HInv.get {n : Nat} {K : List (List Int)} (h : HInv n K) {s : Nat} (hs : s < 3) : ∃ hk : s < K.length, K.getD s [] = K[s] ∧ K[s].length = 6 ∧ ∀ x ∈ K[s], 0 ≤ x ∧ x ≤ (n : Int) := by
  have hk : s < K.length := by rw [h.len]; exact hs
  exact ⟨hk, by rw [List.getD_eq_getElem?_getD, List.getElem?_eq_getElem hk]; rfl, h.row _ (List.getElem_mem hk)⟩
theorem valid_row {n : Nat} {a : List Int} (h : a.length = 6 ∧ ∀ x ∈ a, 0 ≤ x ∧ x ≤ (n : Int)) (hn : n ≤ 999) : valid a = true := by
  simp only [valid, Bool.and_eq_true, decide_eq_true_eq, List.all_eq_true]
  refine ⟨h.1, fun x hx => ?_⟩
  have := h.2 x hx
  simp only [okSeq, Bool.and_eq_true, decide_eq_true_eq]; omega
theorem maxL_row {n : Nat} {a b : List Int} (ha : a.length = 6 ∧ ∀ x ∈ a, 0 ≤ x ∧ x ≤ (n : Int)) (hb : b.length = 6 ∧ ∀ x ∈ b, 0 ≤ x ∧ x ≤ (n : Int)) : (maxL a b).length = 6 ∧ ∀ x ∈ maxL a b, 0 ≤ x ∧ x ≤ (n : Int) := by
  refine ⟨by simp [maxL, ha.1, hb.1], fun x hx => ?_⟩
  obtain ⟨i, hi, rfl⟩ := List.getElem_of_mem hx
  simp only [maxL, List.length_zipWith] at hi
  simp only [maxL, List.getElem_zipWith]
  have h1 := ha.2 a[i] (List.getElem_mem (by omega))
  have h2 := hb.2 b[i] (List.getElem_mem (by omega))
  split <;> omega
theorem HInv.join {n : Nat} {K : List (List Int)} (h : HInv n K) {s t u : Nat} (hs : s < 3) (ht : t < 3) : HInv n (hjoin K s t u) := by
  unfold hjoin
  split
  · obtain ⟨h1, e1, r1⟩ := h.get hs
    obtain ⟨h2, e2, r2⟩ := h.get ht
    refine ⟨by simp [h.len], fun a ha => ?_⟩
    rcases List.mem_or_eq_of_mem_set ha with ha | rfl
    · exact h.row a ha
    · rw [e1, e2]; exact maxL_row r1 r2
  · exact h
theorem HInv.step {n : Nat} {K : List (List Int)} (h : HInv n K) {s : Nat} (hs : s < 3) : HInv (n + 1) (K.set s (own (hcom K s))) := by
  obtain ⟨h1, e1, r1⟩ := h.get hs
  refine ⟨by simp [h.len], fun a ha => ?_⟩
  rcases List.mem_or_eq_of_mem_set ha with ha | rfl
  · have := h.row a ha
    exact ⟨this.1, fun x hx => by have := this.2 x hx; omega⟩
  · unfold own hcom mkCom
    simp only [e1]
    refine ⟨by simp [r1.1], fun x hx => ?_⟩
    rcases List.mem_or_eq_of_mem_set hx with hx | rfl
    · have := r1.2 x hx; omega
    · have hs6 : s < K[s].length := by omega
      have : K[s].getD s 0 = K[s][s] := by rw [List.getD_eq_getElem?_getD, List.getElem?_eq_getElem hs6]; rfl
      rw [this]
      have := r1.2 _ (List.getElem_mem hs6)
      omega

abbrev cellsC (c : Com) : List AVal := [.int .i64 c.st, .int .i64 c.seq, ints c.pf c.past, .int .i64 c.ver, c.ops]
theorem cellsC_len (c : Com) : (cellsC c).length = 5 := rfl
theorem cellsC_pure (c : Com) {p : Nat → Bool} : AVal.namesL p (cellsC c) = true := by simp (maxSteps := 2000000) only [go_sem, ↓reduceIte, Nat.reduceLT, Nat.reduceEqDiff, Nat.reduceLeDiff, Nat.reduceAdd, Nat.reduceSub, Nat.reduceMul, Int.reduceLT, Int.reduceLE, Int.reduceEq, Int.reduceNeg]
@[go_sem] theorem names_coms {p : Nat → Bool} {l : List Com} : AVal.namesL p (l.flatMap cellsC) = true := v_names_flat (fun c => cellsC_pure c) l
@[go_sem] theorem names_lists {p : Nat → Bool} {l : List (List Int)} : AVal.namesL p (l.map fun c => sv 1 .lst (c.map fun n => AVal.int .i64 n)) = true := v_names_map (fun _ => sv_pure) l

theorem snap_coms {n o : Nat} {l : List Com} {σ : Sto} (hσ : σ[o]? = some (.cells false (l.flatMap cellsC))) : snapA σ (n + 2) (.ref o (l.length * 5) 0 l.length 5) = some (coms .lst l) := by
  rw [snap_structs (k := 5) (by decide) (by decide) cellsC_len (fun c => cellsC_pure c) hσ]; exact congrArg some (sv_lst _ _).symm
abbrev lists (K : List (List Int)) : List AVal := K.map fun c => sv 1 .lst (c.map fun n => AVal.int .i64 n)

/-- the second half of a round: the commit, and what its station knows then -/
theorem r20_Headers_tail {f : SlF} {b : List Nat} {v : AVal} {i s : Nat} {out : List Com} {K : List (List Int)} (ho : out.length = i) (hi : i < 12) (hK : HInv i K) (hs : s < 3)
    (h : Run T (Res [.tmp 2] v) (.inLoop r20_Headers.b0 :: r20_Headers.k0) (mkE 85 [(0, bytesV f b), (3, .ref 0 ((i + 1) * 5) 0 (i + 1) 5), (4, .ref 1 3 0 3 1), (5, .int .i64 ((i + 1 : Nat) : Int))])
      [.cells false ((out ++ [hcom K s]).flatMap cellsC), .cells false (lists (K.set s (own (hcom K s))))]) :
    Run T (Res [.tmp 2] v) (.code r20_Headers.c3 :: .inBlock 1 :: .inTrunc 2 :: .code r20_Headers.c2 :: .inLoop r20_Headers.b0 :: r20_Headers.k0) (mkE 85 [(0, bytesV f b), (3, .ref 0 (i * 5) 0 i 5), (4, .ref 1 3 0 3 1), (5, .int .i64 i), (6, .int .i64 s)])
      [.cells false (out.flatMap cellsC), .cells false (lists K)] := by
  rw [run_unfold r20_Headers.c3.eq_1]
  obtain ⟨k1, g1, r1⟩ := hK.get hs
  have hL := hK.len
  have hs6 : s < K[s].length := by omega
  have hx := r1.2 _ (List.getElem_mem hs6)
  have hw : IntKind.i64.wrap (K[s][s] + 1) = K[s][s] + 1 := wrap_i64 (by omega) (by omega)
  have hg2 : K[s].getD s 0 = K[s][s] := by rw [List.getD_eq_getElem?_getD, List.getElem?_eq_getElem hs6]; rfl
  have hc : hcom K s = mkCom s (K[s][s] + 1) K[s] := by unfold hcom; rw [g1, hg2]
  rw [hc] at h
  simp (maxSteps := 2000000) only [go_sem, ↓reduceIte, Nat.reduceLT, Nat.reduceEqDiff, Nat.reduceLeDiff, Nat.reduceAdd, Nat.reduceSub, Nat.reduceMul, Int.reduceLT, Int.reduceLE, Int.reduceEq, Int.reduceNeg, hs, hL, k1, hs6, hw]
  have hlen : (out.flatMap cellsC).length = i * 5 := by rw [flatMap_len cellsC_len, ho]
  rw [appendV_grow (m := 1) (new := cellsC (mkCom s (K[s][s] + 1) K[s])) (by rfl) (by rfl) hlen rfl rfl (by decide) (by simp (maxSteps := 2000000) only [go_sem, ↓reduceIte, Nat.reduceLT, Nat.reduceEqDiff, Nat.reduceLeDiff, Nat.reduceAdd, Nat.reduceSub, Nat.reduceMul, Int.reduceLT, Int.reduceLE, Int.reduceEq, Int.reduceNeg, mkCom]) (by unfold maxBytes; omega)]
  have hlen2 : (out.flatMap cellsC ++ cellsC (mkCom s (K[s][s] + 1) K[s])).length = i * 5 + 1 * 5 := by rw [List.length_append, hlen]; rfl
  have hdrop : (out.flatMap cellsC ++ cellsC (mkCom s (K[s][s] + 1) K[s])).drop (i * 5) = cellsC (mkCom s (K[s][s] + 1) K[s]) := by rw [← hlen]; exact List.drop_left
  have hw3 : IntKind.i64.wrap (((i + 1 : Nat) : Int) - 1) = (i : Int) := by rw [wrap_i64 (by omega) (by omega)]; omega
  generalize hX : out.flatMap cellsC ++ cellsC (mkCom s (K[s][s] + 1) K[s]) = X at hlen2 hdrop
  have hlX : 5 ≤ (X.drop (i * 5)).length := by rw [hdrop]; exact Nat.le_refl 5
  simp (maxSteps := 2000000) only [go_sem, ↓reduceIte, Nat.reduceLT, Nat.reduceEqDiff, Nat.reduceLeDiff, Nat.reduceAdd, Nat.reduceSub, Nat.reduceMul, Int.reduceLT, Int.reduceLE, Int.reduceEq, Int.reduceNeg, hlen2, hw3, hdrop, hlX, Nat.lt_succ_self, hs, hL, k1, hs6]
  rw [r20_Own_call (c := mkCom s (K[s][s] + 1) K[s]) (by show (0 : Int) ≤ (s : Int); omega) (by show ((s : Int)).toNat < K[s].length; rw [Int.toNat_natCast]; exact hs6) (by show K[s].length * 8 ≤ maxBytes; unfold maxBytes; omega)]
  have hX2 : X = (out ++ [mkCom s (K[s][s] + 1) K[s]]).flatMap cellsC := by rw [← hX, List.flatMap_append]; rfl
  have hXn : AVal.namesL (fun o => decide (o < 2)) X = true := by rw [hX2]; exact names_coms
  rw [show (i + 1) * 5 = i * 5 + 5 by omega, ← hX2] at h
  simp (maxSteps := 2000000) only [go_sem, ↓reduceIte, Nat.reduceLT, Nat.reduceEqDiff, Nat.reduceLeDiff, Nat.reduceAdd, Nat.reduceSub, Nat.reduceMul, Int.reduceLT, Int.reduceLE, Int.reduceEq, Int.reduceNeg, run_unfold r20_Headers.c2.eq_1, hs, hL, k1, show s ≤ 2 by omega, over_lists k1, hXn, wrap_succ (show i < 9223372036854775807 by omega)]
  exact h

theorem r20_Headers_loop {f : SlF} {b : List Nat} (hb : Fits b) (hb8 : ∀ n ∈ b, n < 256) : ∀ i, i ≤ (b.take 12).length → ∀ x : HS, x.out.length = i → HInv i x.K →
    Run T (Res [.tmp 2] (coms .lst (((b.take 12).drop i).foldl hstep x).out)) (.inLoop r20_Headers.b0 :: r20_Headers.k0) (mkE 85 [(0, bytesV f b), (3, .ref 0 (i * 5) 0 i 5), (4, .ref 1 3 0 3 1), (5, .int .i64 i)])
      [.cells false (x.out.flatMap cellsC), .cells false (lists x.K)] := by
  refine up_ind ?_ fun i hi ih x hx hK => ?_
  · intro x hx hK
    rw [run_round, run_unfold r20_Headers.b0.eq_1]
    rw [List.drop_length, List.foldl_nil]
    have hlen : (b.take 12).length = min 12 b.length := List.length_take
    by_cases h1 : (b.take 12).length < b.length
    · have h2 : ¬ (((b.take 12).length : Int) < 12) := by omega
      simp (maxSteps := 2000000) only [go_sem, ↓reduceIte, Nat.reduceLT, Nat.reduceEqDiff, Nat.reduceLeDiff, Nat.reduceAdd, Nat.reduceSub, Nat.reduceMul, Int.reduceLT, Int.reduceLE, Int.reduceEq, Int.reduceNeg, h1, h2, run_unfold r20_Headers.c0.eq_1, run_unfold r20_Headers.c1.eq_1, run_unfold r20_Headers.c2.eq_1, run_unfold r20_Headers.c3.eq_1, r20_Headers.k0]
      rw [← hx, snap_coms (by rfl)]
    · simp (maxSteps := 2000000) only [go_sem, ↓reduceIte, Nat.reduceLT, Nat.reduceEqDiff, Nat.reduceLeDiff, Nat.reduceAdd, Nat.reduceSub, Nat.reduceMul, Int.reduceLT, Int.reduceLE, Int.reduceEq, Int.reduceNeg, h1, run_unfold r20_Headers.c0.eq_1, run_unfold r20_Headers.c1.eq_1, run_unfold r20_Headers.c2.eq_1, run_unfold r20_Headers.c3.eq_1, r20_Headers.k0]
      rw [← hx, snap_coms (by rfl)]
  · rw [run_round, run_unfold r20_Headers.b0.eq_1]
    have hi' : i < b.length ∧ i < 12 := by simp at hi; omega
    have hn := hb8 b[i] (List.getElem_mem hi'.1)
    rw [List.drop_eq_getElem_cons hi, List.foldl_cons, List.getElem_take, hstep]
    have e1 : Int.tmod (b[i] : Int) 3 = ((b[i] % 3 : Nat) : Int) := rfl
    have e2 : IntKind.u8.wrap (Int.tdiv (b[i] : Int) 3) = ((b[i] / 3 : Nat) : Int) := wrap_quo (k := 3) hn
    have e3 : Int.tmod ((b[i] / 3 : Nat) : Int) 3 = ((b[i] / 3 % 3 : Nat) : Int) := rfl
    have e4 : IntKind.u8.wrap (Int.tdiv (b[i] : Int) 9) = ((b[i] / 9 : Nat) : Int) := wrap_quo (k := 9) hn
    have e5 : Int.tmod ((b[i] / 9 : Nat) : Int) 3 = ((b[i] / 9 % 3 : Nat) : Int) := rfl
    have hs : b[i] % 3 < 3 := Nat.mod_lt _ (by decide)
    have ht : b[i] / 3 % 3 < 3 := Nat.mod_lt _ (by decide)
    generalize b[i] % 3 = s at e1 hs ⊢
    generalize b[i] / 3 % 3 = t at e3 ht ⊢
    generalize b[i] / 9 % 3 = u at e5 ⊢
    have w1 := wrap_nat (show s < 9223372036854775808 by omega)
    have w2 := wrap_nat (show t < 9223372036854775808 by omega)
    have hL : x.K.length = 3 := hK.len
    obtain ⟨k1, g1, r1⟩ := hK.get hs
    obtain ⟨k2, g2, r2⟩ := hK.get ht
    have hlt : ((i : Int) < 12) := by omega
    have hJ := hK.join (u := u) hs ht
    have fin : Run T (Res [.tmp 2] (coms .lst (((b.take 12).drop (i + 1)).foldl hstep (hnext x s t u)).out)) (.code r20_Headers.c3 :: .inBlock 1 :: .inTrunc 2 :: .code r20_Headers.c2 :: .inLoop r20_Headers.b0 :: r20_Headers.k0) (mkE 85 [(0, bytesV f b), (3, .ref 0 (i * 5) 0 i 5), (4, .ref 1 3 0 3 1), (5, .int .i64 i), (6, .int .i64 s)])
      [.cells false (x.out.flatMap cellsC), .cells false (lists (hjoin x.K s t u))] :=
      r20_Headers_tail hx hi'.2 hJ hs (ih (hnext x s t u) (by simp [hnext, hx]) (hJ.step hs))
    by_cases hu : 0 < u
    · have hu' : (0 : Int) < (u : Int) := by omega
      have va := valid_row r1 (by omega)
      have vb := valid_row r2 (by omega)
      have e6 : hjoin x.K s t u = x.K.set s (maxL x.K[s] x.K[t]) := by unfold hjoin; rw [if_pos hu, g1, g2]
      rw [e6] at fin
      simp (maxSteps := 2000000) only [go_sem, ↓reduceIte, Nat.reduceLT, Nat.reduceEqDiff, Nat.reduceLeDiff, Nat.reduceAdd, Nat.reduceSub, Nat.reduceMul, Int.reduceLT, Int.reduceLE, Int.reduceEq, Int.reduceNeg, hi'.1, hlt, e1, e2, e3, e4, e5, w1, w2, hL, hs, ht, k1, k2, hu', cutOf, va, vb, over_lists k1, show s ≤ 2 by omega, List.length_set]
      exact fin
    · have hu' : ¬ (0 : Int) < (u : Int) := by omega
      have e6 : hjoin x.K s t u = x.K := by unfold hjoin; rw [if_neg hu]
      rw [e6] at fin
      simp (maxSteps := 2000000) only [go_sem, ↓reduceIte, Nat.reduceLT, Nat.reduceEqDiff, Nat.reduceLeDiff, Nat.reduceAdd, Nat.reduceSub, Nat.reduceMul, Int.reduceLT, Int.reduceLE, Int.reduceEq, Int.reduceNeg, hi'.1, hlt, e1, e2, e3, e4, e5, w1, w2, hL, hs, ht, k1, k2, hu']
      exact fin


theorem r20_Headers_spec {f : SlF} {b : List Nat} (hb : Fits b) (hb8 : ∀ n ∈ b, n < 256) {lv : List Nat} {σ : Sto} {R : Post} : Cw T true i_r20_Headers [bytesV f b] lv σ R ↔ R (coms .lst (headers b)) σ := by
  refine cw_intro T_r20_Headers (by simp only [go_sem]) (by simp) ?_; rw [run_unfold r20_Headers.main.eq_1]
  simp (maxSteps := 2000000) only [go_sem, ↓reduceIte, Nat.reduceLT, Nat.reduceEqDiff, Nat.reduceLeDiff, Nat.reduceAdd, Nat.reduceSub, Nat.reduceMul, Int.reduceLT, Int.reduceLE, Int.reduceEq, Int.reduceNeg]
  have := r20_Headers_loop (f := f) hb hb8 0 (by omega) ⟨[], [zeros, zeros, zeros]⟩ rfl ⟨rfl, by decide⟩
  exact this
@[go_sem] theorem r20_Headers_call {f : SlF} {b : List Nat} (hb : Fits b) (hb8 : ∀ n ∈ b, n < 256) {Q : Post3} {k : List Item} {os : List AOper} {d : Option Nat} {e : Env} {σ : Sto} : CallK T Q k os d e σ true i_r20_Headers [bytesV f b] ↔ Run T Q (.ops os :: k) (put e d (coms .lst (headers b))) σ := r20_Headers_spec hb hb8


theorem headers_fits (b : List Nat) : (headers b).length ≤ 12 := by
  have : ∀ (l : List Nat) (x : HS), (l.foldl hstep x).out.length = x.out.length + l.length := by
    intro l
    induction l with
    | nil => intro x; rfl
    | cons a l ih => intro x; rw [List.foldl_cons, ih]; simp [hstep, hnext]; omega
  unfold headers
  rw [this]
  simp
  omega

end Go.Abs
