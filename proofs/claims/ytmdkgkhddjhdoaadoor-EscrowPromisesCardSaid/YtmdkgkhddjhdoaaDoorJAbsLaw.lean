/- Parts of the proof: AbsLaw, D20H, D20I, D20J, D20K, D20L, D20P, D20Q, D20R, D20W, D20Z, D20ZA. -/
import Derived.Test.YtmdkgkhddjhdoaaDoorAbsVal
import Derived.Test.YtmdkgkhddjhdoaaDoorJD20A
set_option linter.all false
/- A law that returns true, called at the top. -/
namespace Go.Abs
open Go

theorem snapA_bool {σ : Sto} {n : Nat} {v : AVal} {b : Bool} (h : snapA σ n v = some (.bool b)) : v = .bool b := by
  cases n with
  | zero => simp [snapA] at h
  | succ n =>
    unfold snapA at h
    split at h
    · exact Option.some.inj h
    · split at h
      all_goals first
        | (simp at h; done)
        | (repeat' split at h) <;> simp at h

theorem law_top {T : FuncId → Option AFunc} {f : FuncId} {af : AFunc} {args : List AVal} (hf : T f = some af) (hp : AVal.pures args = true) (h : Cw T true f args [] [] fun v _ => v = .bool true) :
    ∃ n, callW T n false f args [] [] fun v _ => v = .bool true := by
  refine (cw_shared hf).2 (((cw_pure hf (mapM_snap_pure hp)).1 h).mono fun x e σ' hx => ret_mono (fun v σ'' h => ?_) hx)
  split at h
  · rename_i v' hv
    obtain ⟨_, rfl⟩ := h
    exact snapA_bool hv
  · exact h.elim
end Go.Abs
/- Walks of chapter 20: the greatest closed cut of the reference; consistent lists. -/
set_option linter.unusedSimpArgs false
set_option linter.unusedVariables false
namespace Go.Abs
open Go
attribute [local go_sem_proc] Nat.reduceLT Nat.reduceEqDiff Nat.reduceLeDiff Nat.reduceAdd Nat.reduceSub Nat.reduceMul Int.reduceLT Int.reduceLE Int.reduceEq Int.reduceNeg
attribute [local go_sem_proc ↓] reduceIte

def full (l : List Com) (c : List Int) (s : Nat) : Bool := !decide (((fit l c s : Nat) : Int) < c.getD s 0)
def closed (l : List Com) (c : List Int) : Bool := valid c && (List.range 6).all (full l c)

theorem range6_drop {i : Nat} (h : i < 6) : (List.range 6).drop i = i :: (List.range 6).drop (i + 1) := by
  have : i < (List.range 6).length := by simpa using h
  rw [List.drop_eq_getElem_cons this]; simp

theorem r20_Closed_loop {f g : SlF} {l : List Com} {c : List Int} (hl : Fits l) (hv : valid c = true) : ∀ i, i ≤ 6 →
    Run T (Res [.tmp 4] (.bool (((List.range 6).drop i).all (full l c)))) (.inLoop r20_Closed.b0 :: r20_Closed.k0) (mkE 24 [(0, coms f l), (1, ints g c), (5, .int .i64 i)]) [] := by
  have h6 := valid_len hv
  refine up_ind ?_ fun i hi ih => ?_
  · rw [run_round, run_unfold r20_Closed.b0.eq_1]
    simp (maxSteps := 2000000) only [go_sem, run_unfold r20_Closed.c0.eq_1, run_unfold r20_Closed.c1.eq_1, r20_Closed.k0, h6, show (List.range 6).drop 6 = [] from rfl]
  · rw [run_round, run_unfold r20_Closed.b0.eq_1]
    rw [range6_drop hi]
    have h1 : i < c.length := by omega
    have hg : c.getD i 0 = c[i] := by rw [List.getD_eq_getElem?_getD, List.getElem?_eq_getElem h1]; rfl
    have hw := wrap_succ (show i < 9223372036854775807 by omega)
    by_cases h : ((fit l c i : Nat) : Int) < c[i]
    · simp (maxSteps := 2000000) only [go_sem, hl, hv, hi, h1, full, hg, h]
    · simp (maxSteps := 2000000) only [go_sem, hl, hv, hi, h1, full, hg, h, hw]
      exact ih

theorem r20_Closed_spec {f g : SlF} {l : List Com} {c : List Int} (hl : Fits l) {lv : List Nat} {σ : Sto} {R : Post} : Cw T true i_r20_Closed [coms f l, ints g c] lv σ R ↔ R (.bool (closed l c)) σ := by
  refine cw_intro T_r20_Closed (by simp only [go_sem]) (by simp) ?_; rw [run_unfold r20_Closed.main.eq_1]
  unfold closed
  cases hv : valid c
  case false => simp (maxSteps := 2000000) only [go_sem, hv]
  simp (maxSteps := 2000000) only [go_sem, hv]
  exact r20_Closed_loop hl hv 0 (by omega)
@[go_sem] theorem r20_Closed_call {f g : SlF} {l : List Com} {c : List Int} (hl : Fits l) {Q : Post3} {k : List Item} {os : List AOper} {d : Option Nat} {e : Env} {σ : Sto} : CallK T Q k os d e σ true i_r20_Closed [coms f l, ints g c] ↔ Run T Q (.ops os :: k) (put e d (.bool (closed l c))) σ := r20_Closed_spec hl


theorem lead_le (p : Nat → Bool) : ∀ d q, lead p q d ≤ q + d
  | 0, q => by simp [lead]
  | d + 1, q => by
    unfold lead
    split
    · have := lead_le p d (q + 1); omega
    · omega
theorem lead_ge (p : Nat → Bool) : ∀ d q, q ≤ lead p q d
  | 0, q => by simp [lead]
  | d + 1, q => by
    unfold lead
    split
    · have := lead_ge p d (q + 1); omega
    · omega
theorem fit_le {l : List Com} {c : List Int} {s : Nat} : fit l c s ≤ (c.getD s 0).toNat := by
  have := lead_le (okq l c s) (c.getD s 0).toNat 0
  unfold fit; omega

theorem valid_set {c : List Int} (h : valid c = true) {s : Nat} {v : Int} (h0 : 0 ≤ v) (h1 : v ≤ 999) : valid (c.set s v) = true := by
  simp only [valid, Bool.and_eq_true, decide_eq_true_eq, List.length_set, List.all_eq_true] at h ⊢
  refine ⟨h.1, fun x hx => ?_⟩
  rcases List.mem_or_eq_of_mem_set hx with hx | rfl
  · exact h.2 x hx
  · simp only [okSeq, Bool.and_eq_true, decide_eq_true_eq]; exact ⟨h0, h1⟩

/-- one pass of the reference: stations i, i + 1, .. -/
def pass (l : List Com) (o : List Int) (i : Nat) : Nat → List Int
  | 0 => o
  | d + 1 => pass l (o.set i (fit l o i : Nat)) (i + 1) d

theorem fit_small {l : List Com} {o : List Int} (h : valid o = true) {i : Nat} (hi : i < 6) : ((fit l o i : Nat) : Int) ≤ 999 := by
  obtain ⟨m, _, h2, h3⟩ := valid_get h (show i < o.length by rw [valid_len h]; exact hi)
  have := fit_le (l := l) (c := o) (s := i)
  omega

theorem pass_valid {l : List Com} : ∀ d i (o : List Int), i + d = 6 → valid o = true → valid (pass l o i d) = true
  | 0, i, o, _, h => h
  | d + 1, i, o, hd, h => pass_valid d (i + 1) _ (by omega) (valid_set h (by omega) (fit_small h (by omega)))

theorem r20_GreatestIn_pass {f : SlF} {l : List Com} {o0 : List Int} (hl : Fits l) {v : AVal}
    (hk : ∀ o : List Int, valid o = true → o = pass l o0 0 6 → Run T (Res [.cell 4 true 2] v) (.inLoop r20_GreatestIn.b0 :: r20_GreatestIn.k0) (mkE 33 [(0, coms f l), (4, .ptr 0 2 0), (5, .ref 1 6 0 6 1)]) [.cells false [.nils, .int .i64 0], .cells false (o.map fun n => .int .i64 n)]) :
    ∀ i, i ≤ 6 → ∀ o : List Int, valid o = true → pass l o i (6 - i) = pass l o0 0 6 →
    Run T (Res [.cell 4 true 2] v) (.inLoop r20_GreatestIn.b1 :: r20_GreatestIn.k1) (mkE 33 [(0, coms f l), (4, .ptr 0 2 0), (5, .ref 1 6 0 6 1), (6, .int .i64 i)]) [.cells false [.nils, .int .i64 0], .cells false (o.map fun n => .int .i64 n)] := by
  refine up_ind ?_ fun i hi ih o hv hp => ?_
  · intro o hv hp
    rw [run_round, run_unfold r20_GreatestIn.b1.eq_1]
    simp (maxSteps := 2000000) only [go_sem, run_unfold r20_GreatestIn.c0.eq_1, r20_GreatestIn.k0, r20_GreatestIn.k1, valid_len hv]
    exact hk o hv hp
  · rw [run_round, run_unfold r20_GreatestIn.b1.eq_1]
    have ho := valid_len hv
    have h3 : i < o.length := by omega
    simp (maxSteps := 2000000) only [go_sem, ho, hi, show ((i : Int) < 6) by omega]
    rw [callK_live T_r20_fits (as := [coms f l, ints .lst o, .int .i64 i]) (v := .int .i64 (fit l o i : Nat)) (r20_fits_spec hl hv hi) (by
      rw [mapM_scons, snapDepth_eq, snapA_step (by simp (maxSteps := 2000000) only [go_sem]), mapM_scons, snap_lit (c := o) (by rfl) ho, mapM_scons, snapA_step (by simp (maxSteps := 2000000) only [go_sem]), mapM_snil]) (by simp (maxSteps := 2000000) only [go_sem]) rfl]
    simp (maxSteps := 2000000) only [go_sem, ho, hi, h3, show i + 1 ≤ 6 by omega, wrap_succ (show i < 9223372036854775807 by omega)]
    refine ih _ (valid_set hv (by omega) (fit_small hv hi)) ?_
    rw [← hp, show 6 - i = (6 - (i + 1)) + 1 by omega, pass]

def gre (l : List Com) : Nat → List Int → List Int
  | 0, o => o
  | n + 1, o => if closed l o = true then o else gre l n (pass l o 0 6)

/-- numbers of commits in all -/
def total (o : List Int) : Nat := (o.map Int.toNat).sum

theorem total_set {o : List Int} {i : Nat} {v : Nat} (hi : i < o.length) : total (o.set i v) + (o.getD i 0).toNat = total o + v := by
  induction o generalizing i with
  | nil => simp at hi
  | cons x o ih =>
    cases i with
    | zero => simp [total]; omega
    | succ i =>
      have := ih (i := i) (by simpa using hi)
      simp [total] at this ⊢
      omega

theorem pass_total {l : List Com} : ∀ d i (o : List Int), i + d = 6 → valid o = true → total (pass l o i d) ≤ total o ∧ (total (pass l o i d) = total o → ∀ s, i ≤ s → s < 6 → full l o s = true)
  | 0, i, o, hd, h => ⟨Nat.le_refl _, fun _ s h1 h2 => by omega⟩
  | d + 1, i, o, hd, h => by
    have hi : i < o.length := by rw [valid_len h]; omega
    have hv := valid_set h (v := (fit l o i : Nat)) (s := i) (by omega) (fit_small h (by omega))
    obtain ⟨h1, h2⟩ := pass_total (l := l) d (i + 1) _ (by omega) hv
    have h3 := total_set (v := fit l o i) hi
    have h4 := fit_le (l := l) (c := o) (s := i)
    refine ⟨by unfold pass; omega, fun he s hs hs6 => ?_⟩
    unfold pass at he
    have h5 : fit l o i = (o.getD i 0).toNat := by omega
    have h6 : o.set i (fit l o i : Nat) = o := by
      obtain ⟨m, g1, g2, g3⟩ := valid_get h hi
      rw [h5, g3, ← g1]; exact List.set_getElem_self hi
    rw [h6] at h2 he
    by_cases hsi : s = i
    · subst hsi
      obtain ⟨m, g1, g2, g3⟩ := valid_get h hi
      have g4 : o.getD s 0 = o[s] := by rw [List.getD_eq_getElem?_getD, List.getElem?_eq_getElem hi]; rfl
      unfold full
      rw [h5, g3, g4, g1]; simp
    · exact h2 he s (by omega) hs6

theorem pass_less {l : List Com} {o : List Int} (hv : valid o = true) (hc : closed l o = false) : total (pass l o 0 6) < total o := by
  obtain ⟨h1, h2⟩ := pass_total (l := l) 6 0 o rfl hv
  rcases Nat.lt_or_ge (total (pass l o 0 6)) (total o) with h | h
  · exact h
  · exfalso
    have := h2 (by omega)
    have : closed l o = true := by
      unfold closed
      rw [hv, Bool.true_and, List.all_eq_true]
      intro s hs
      exact this s (by omega) (by simpa using hs)
    rw [hc] at this; simp at this

theorem r20_GreatestIn_loop {f : SlF} {l : List Com} (hl : Fits l) : ∀ n (o : List Int), valid o = true → total o < n →
    Run T (Res [.cell 4 true 2] (.agg [ints .lst (gre l n o), .int .i64 0])) (.inLoop r20_GreatestIn.b0 :: r20_GreatestIn.k0) (mkE 33 [(0, coms f l), (4, .ptr 0 2 0), (5, .ref 1 6 0 6 1)]) [.cells false [.nils, .int .i64 0], .cells false (o.map fun n => .int .i64 n)] := by
  intro n
  induction n with
  | zero => intro o _ h; omega
  | succ n ih =>
    intro o hv hn
    have ho := valid_len hv
    rw [run_round, run_unfold r20_GreatestIn.b0.eq_1]
    simp (maxSteps := 2000000) only [go_sem, ho]
    rw [callK_live T_r20_Closed (as := [coms f l, ints .lst o]) (v := .bool (closed l o)) (r20_Closed_spec hl) (by
      rw [mapM_scons, snapDepth_eq, snapA_step (by simp (maxSteps := 2000000) only [go_sem]), mapM_scons, snap_lit (c := o) (by rfl) ho, mapM_snil]) (by simp (maxSteps := 2000000) only [go_sem]) rfl]
    cases hc : closed l o
    · simp (maxSteps := 2000000) only [go_sem, hc, gre]
      refine r20_GreatestIn_pass hl (fun o' hv' he => ?_) 0 (by omega) o hv rfl
      rw [← he]
      exact ih o' hv' (by rw [he]; have := pass_less hv hc; omega)
    · simp (maxSteps := 2000000) only [go_sem, hc, gre, run_unfold r20_GreatestIn.c0.eq_1, r20_GreatestIn.k0, r20_GreatestIn.k1, ho]
      rw [show (6 : Nat) = o.length from ho.symm, snap_ints (by rfl)]
      simp (maxSteps := 2000000) only [go_sem]

theorem total_le {o : List Int} (h : valid o = true) : total o < 6000 := by
  have h6 := valid_len h
  have hs : ∀ l : List Int, (∀ x ∈ l, x.toNat ≤ 999) → total l ≤ l.length * 999 := by
    intro l
    induction l with
    | nil => intro _; simp [total]
    | cons x l ih =>
      intro hx
      have h1 := hx x (by simp)
      have h2 := ih fun y hy => hx y (by simp [hy])
      simp [total] at h2 ⊢
      omega
  have := hs o fun x hx => by
    simp only [valid, Bool.and_eq_true, List.all_eq_true] at h
    have := h.2 x hx
    simp only [okSeq, Bool.and_eq_true, decide_eq_true_eq] at this
    omega
  omega

def greatest (l : List Com) (c : List Int) : Cut := if valid c = true then ⟨.lst, gre l 6000 c, 0⟩ else ⟨.nil, [], 200⟩

theorem r20_GreatestIn_spec {f g : SlF} {l : List Com} {c : List Int} (hl : Fits l) {lv : List Nat} {σ : Sto} {R : Post} : Cw T true i_r20_GreatestIn [coms f l, ints g c] lv σ R ↔ R (encU (greatest l c)) σ := by
  refine cw_intro T_r20_GreatestIn (by simp only [go_sem]) (by simp) ?_; rw [run_unfold r20_GreatestIn.main.eq_1]
  unfold greatest
  cases hv : valid c
  case false => simp (maxSteps := 2000000) only [go_sem, hv, encU]
  have h6 := valid_len hv
  simp (maxSteps := 2000000) only [go_sem, hv]
  rw [appendV_fresh (by rfl) rowOf_ints (by simp) (by decide) (by simp [AVal.one]) (by unfold maxBytes; omega)]
  simp (maxSteps := 2000000) only [go_sem, h6]
  exact r20_GreatestIn_loop hl 6000 c hv (total_le hv)
@[go_sem] theorem r20_GreatestIn_call {f g : SlF} {l : List Com} {c : List Int} (hl : Fits l) {Q : Post3} {k : List Item} {os : List AOper} {d : Option Nat} {e : Env} {σ : Sto} : CallK T Q k os d e σ true i_r20_GreatestIn [coms f l, ints g c] ↔ Run T Q (.ops os :: k) (put e d (encU (greatest l c))) σ := r20_GreatestIn_spec hl


end Go.Abs
/- Walks of chapter 20: what the reference makes of bytes. -/
set_option linter.unusedSimpArgs false
set_option linter.unusedVariables false
namespace Go.Abs
open Go
attribute [local go_sem_proc] Nat.reduceLT Nat.reduceEqDiff Nat.reduceLeDiff Nat.reduceAdd Nat.reduceSub Nat.reduceMul Int.reduceLT Int.reduceLE Int.reduceEq Int.reduceNeg
attribute [local go_sem_proc ↓] reduceIte

def cutOfL (l : List Com) (b : List Nat) : List Int := gre l 6000 (if b.length = 0 then [999, 999, 999, 999, 999, 999] else limit b)

theorem valid_all : valid [999, 999, 999, 999, 999, 999] = true := by decide
theorem limF_small : ∀ (b : List Nat) (o : List Int), (∀ x ∈ o, okSeq x = true) → ∀ x ∈ limF b o, okSeq x = true
  | _, [], _, x, h => by simp [limF] at h
  | [], y :: o, ho, x, h => ho x h
  | n :: b, y :: o, ho, x, h => by
    simp only [limF, List.mem_cons] at h
    rcases h with rfl | h
    · have : n % 6 < 6 := Nat.mod_lt _ (by decide)
      simp only [okSeq, Bool.and_eq_true, decide_eq_true_eq]; omega
    · exact limF_small b o (fun z hz => ho z (by simp [hz])) x h
theorem valid_limit (b : List Nat) : valid (limit b) = true := by
  simp only [valid, Bool.and_eq_true, decide_eq_true_eq, List.all_eq_true]
  exact ⟨by unfold limit; rw [limF_len]; rfl, limF_small b zeros (by decide)⟩

theorem r20_CutOf_spec {f g : SlF} {l : List Com} {b : List Nat} (hl : Fits l) (hb : Fits b) {lv : List Nat} {σ : Sto} {R : Post} : Cw T true i_r20_CutOf [coms f l, bytesV g b] lv σ R ↔ R (ints .lst (cutOfL l b)) σ := by
  refine cw_intro T_r20_CutOf (by simp only [go_sem]) (by simp) ?_; rw [run_unfold r20_CutOf.main.eq_1]
  unfold cutOfL
  by_cases h : b.length = 0
  · simp (maxSteps := 2000000) only [go_sem, h, hl, greatest, valid_all]
  · have h' : ¬ ((b.length : Int) = 0) := by omega
    simp (maxSteps := 2000000) only [go_sem, h, h', hl, hb, greatest, valid_limit]
@[go_sem] theorem r20_CutOf_call {f g : SlF} {l : List Com} {b : List Nat} (hl : Fits l) (hb : Fits b) {Q : Post3} {k : List Item} {os : List AOper} {d : Option Nat} {e : Env} {σ : Sto} : CallK T Q k os d e σ true i_r20_CutOf [coms f l, bytesV g b] ↔ Run T Q (.ops os :: k) (put e d (ints .lst (cutOfL l b))) σ := r20_CutOf_spec hl hb


/-! ### Headers -/
def mkCom (st seq : Int) (past : List Int) : Com := ⟨st, seq, .lst, past, 0, .nils, rfl, rfl⟩
structure HS where
  out : List Com
  K : List (List Int)
def hjoin (K : List (List Int)) (s t u : Nat) : List (List Int) := if 0 < u then K.set s (maxL (K.getD s []) (K.getD t [])) else K
def hcom (K : List (List Int)) (s : Nat) : Com := mkCom s ((K.getD s []).getD s 0 + 1) (K.getD s [])
def hnext (x : HS) (s t u : Nat) : HS := ⟨x.out ++ [hcom (hjoin x.K s t u) s], (hjoin x.K s t u).set s (own (hcom (hjoin x.K s t u) s))⟩
def hstep (x : HS) (b : Nat) : HS := hnext x (b % 3) (b / 3 % 3) (b / 9 % 3)
def headers (b : List Nat) : List Com := ((b.take 12).foldl hstep ⟨[], [zeros, zeros, zeros]⟩).out

/-- what holds of the stations' knowledge after n commits -/
structure HInv (n : Nat) (K : List (List Int)) : Prop where
  len : K.length = 3
  row : ∀ a ∈ K, a.length = 6 ∧ ∀ x ∈ a, 0 ≤ x ∧ x ≤ (n : Int)

theorem HInv.get {n : Nat} {K : List (List Int)} (h : HInv n K) {s : Nat} (hs : s < 3) : ∃ hk : s < K.length, K.getD s [] = K[s] ∧ K[s].length = 6 ∧ ∀ x ∈ K[s], 0 ≤ x ∧ x ≤ (n : Int) := by
  have hk : s < K.length := by rw [h.len]; exact hs
  exact ⟨hk, by rw [List.getD_eq_getElem?_getD, List.getElem?_eq_getElem hk]; rfl, h.row _ (List.getElem_mem hk)⟩
theorem valid_row {n : Nat} {a : List Int} (h : a.length = 6 ∧ ∀ x ∈ a, 0 ≤ x ∧ x ≤ (n : Int)) (hn : n ≤ 999) : valid a = true := by
  simp only [valid, Bool.and_eq_true, decide_eq_true_eq, List.all_eq_true]
  refine ⟨h.1, fun x hx => ?_⟩
  have := h.2 x hx
  simp only [okSeq, Bool.and_eq_true, decide_eq_true_eq]; omega
theorem maxL_row {n : Nat} {a b : List Int} (ha : a.length = 6 ∧ ∀ x ∈ a, 0 ≤ x ∧ x ≤ (n : Int)) (hb : b.length = 6 ∧ ∀ x ∈ b, 0 ≤ x ∧ x ≤ (n : Int)) : (maxL a b).length = 6 ∧ ∀ x ∈ maxL a b, 0 ≤ x ∧ x ≤ (n : Int) := by
  refine ⟨by simp [maxL, ha.1, hb.1], fun x hx => ?_⟩
  obtain ⟨i, hi, rfl⟩ := List.getElem_of_mem hx
  simp only [maxL, List.length_zipWith] at hi
  simp only [maxL, List.getElem_zipWith]
  have h1 := ha.2 a[i] (List.getElem_mem (by omega))
  have h2 := hb.2 b[i] (List.getElem_mem (by omega))
  split <;> omega
theorem HInv.join {n : Nat} {K : List (List Int)} (h : HInv n K) {s t u : Nat} (hs : s < 3) (ht : t < 3) : HInv n (hjoin K s t u) := by
  unfold hjoin
  split
  · obtain ⟨h1, e1, r1⟩ := h.get hs
    obtain ⟨h2, e2, r2⟩ := h.get ht
    refine ⟨by simp [h.len], fun a ha => ?_⟩
    rcases List.mem_or_eq_of_mem_set ha with ha | rfl
    · exact h.row a ha
    · rw [e1, e2]; exact maxL_row r1 r2
  · exact h
theorem HInv.step {n : Nat} {K : List (List Int)} (h : HInv n K) {s : Nat} (hs : s < 3) : HInv (n + 1) (K.set s (own (hcom K s))) := by
  obtain ⟨h1, e1, r1⟩ := h.get hs
  refine ⟨by simp [h.len], fun a ha => ?_⟩
  rcases List.mem_or_eq_of_mem_set ha with ha | rfl
  · have := h.row a ha
    exact ⟨this.1, fun x hx => by have := this.2 x hx; omega⟩
  · unfold own hcom mkCom
    simp only [e1]
    refine ⟨by simp [r1.1], fun x hx => ?_⟩
    rcases List.mem_or_eq_of_mem_set hx with hx | rfl
    · have := r1.2 x hx; omega
    · have hs6 : s < K[s].length := by omega
      have : K[s].getD s 0 = K[s][s] := by rw [List.getD_eq_getElem?_getD, List.getElem?_eq_getElem hs6]; rfl
      rw [this]
      have := r1.2 _ (List.getElem_mem hs6)
      omega

abbrev cellsC (c : Com) : List AVal := [.int .i64 c.st, .int .i64 c.seq, ints c.pf c.past, .int .i64 c.ver, c.ops]
theorem cellsC_len (c : Com) : (cellsC c).length = 5 := rfl
theorem cellsC_pure (c : Com) {p : Nat → Bool} : AVal.namesL p (cellsC c) = true := by simp (maxSteps := 2000000) only [go_sem]
@[go_sem] theorem names_coms {p : Nat → Bool} {l : List Com} : AVal.namesL p (l.flatMap cellsC) = true := v_names_flat (fun c => cellsC_pure c) l
@[go_sem] theorem names_lists {p : Nat → Bool} {l : List (List Int)} : AVal.namesL p (l.map fun c => sv 1 .lst (c.map fun n => AVal.int .i64 n)) = true := v_names_map (fun _ => sv_pure) l

theorem snap_coms {n o : Nat} {l : List Com} {σ : Sto} (hσ : σ[o]? = some (.cells false (l.flatMap cellsC))) : snapA σ (n + 2) (.ref o (l.length * 5) 0 l.length 5) = some (coms .lst l) := by
  rw [snap_structs (k := 5) (by decide) (by decide) cellsC_len (fun c => cellsC_pure c) hσ]; exact congrArg some (sv_lst _ _).symm
abbrev lists (K : List (List Int)) : List AVal := K.map fun c => sv 1 .lst (c.map fun n => AVal.int .i64 n)

/-- the second half of a round: the commit, and what its station knows then -/
theorem r20_Headers_tail {f : SlF} {b : List Nat} {v : AVal} {i s : Nat} {out : List Com} {K : List (List Int)} (ho : out.length = i) (hi : i < 12) (hK : HInv i K) (hs : s < 3)
    (h : Run T (Res [.tmp 2] v) (.inLoop r20_Headers.b0 :: r20_Headers.k0) (mkE 85 [(0, bytesV f b), (3, .ref 0 ((i + 1) * 5) 0 (i + 1) 5), (4, .ref 1 3 0 3 1), (5, .int .i64 ((i + 1 : Nat) : Int))])
      [.cells false ((out ++ [hcom K s]).flatMap cellsC), .cells false (lists (K.set s (own (hcom K s))))]) :
    Run T (Res [.tmp 2] v) (.code r20_Headers.c3 :: .inBlock 1 :: .inTrunc 2 :: .code r20_Headers.c2 :: .inLoop r20_Headers.b0 :: r20_Headers.k0) (mkE 85 [(0, bytesV f b), (3, .ref 0 (i * 5) 0 i 5), (4, .ref 1 3 0 3 1), (5, .int .i64 i), (6, .int .i64 s)])
      [.cells false (out.flatMap cellsC), .cells false (lists K)] := by
  rw [run_unfold r20_Headers.c3.eq_1]
  obtain ⟨k1, g1, r1⟩ := hK.get hs
  have hL := hK.len
  have hs6 : s < K[s].length := by omega
  have hx := r1.2 _ (List.getElem_mem hs6)
  have hw : IntKind.i64.wrap (K[s][s] + 1) = K[s][s] + 1 := wrap_i64 (by omega) (by omega)
  have hg2 : K[s].getD s 0 = K[s][s] := by rw [List.getD_eq_getElem?_getD, List.getElem?_eq_getElem hs6]; rfl
  have hc : hcom K s = mkCom s (K[s][s] + 1) K[s] := by unfold hcom; rw [g1, hg2]
  rw [hc] at h
  simp (maxSteps := 2000000) only [go_sem, hs, hL, k1, hs6, hw]
  have hlen : (out.flatMap cellsC).length = i * 5 := by rw [flatMap_len cellsC_len, ho]
  rw [appendV_grow (m := 1) (new := cellsC (mkCom s (K[s][s] + 1) K[s])) (by rfl) (by rfl) hlen rfl rfl (by decide) (by simp (maxSteps := 2000000) only [go_sem, mkCom]) (by unfold maxBytes; omega)]
  have hlen2 : (out.flatMap cellsC ++ cellsC (mkCom s (K[s][s] + 1) K[s])).length = i * 5 + 1 * 5 := by rw [List.length_append, hlen]; rfl
  have hdrop : (out.flatMap cellsC ++ cellsC (mkCom s (K[s][s] + 1) K[s])).drop (i * 5) = cellsC (mkCom s (K[s][s] + 1) K[s]) := by rw [← hlen]; exact List.drop_left
  have hw3 : IntKind.i64.wrap (((i + 1 : Nat) : Int) - 1) = (i : Int) := by rw [wrap_i64 (by omega) (by omega)]; omega
  generalize hX : out.flatMap cellsC ++ cellsC (mkCom s (K[s][s] + 1) K[s]) = X at hlen2 hdrop
  have hlX : 5 ≤ (X.drop (i * 5)).length := by rw [hdrop]; exact Nat.le_refl 5
  simp (maxSteps := 2000000) only [go_sem, hlen2, hw3, hdrop, hlX, Nat.lt_succ_self, hs, hL, k1, hs6]
  rw [r20_Own_call (c := mkCom s (K[s][s] + 1) K[s]) (by show (0 : Int) ≤ (s : Int); omega) (by show ((s : Int)).toNat < K[s].length; rw [Int.toNat_natCast]; exact hs6) (by show K[s].length * 8 ≤ maxBytes; unfold maxBytes; omega)]
  have hX2 : X = (out ++ [mkCom s (K[s][s] + 1) K[s]]).flatMap cellsC := by rw [← hX, List.flatMap_append]; rfl
  have hXn : AVal.namesL (fun o => decide (o < 2)) X = true := by rw [hX2]; exact names_coms
  rw [show (i + 1) * 5 = i * 5 + 5 by omega, ← hX2] at h
  simp (maxSteps := 2000000) only [go_sem, run_unfold r20_Headers.c2.eq_1, hs, hL, k1, show s ≤ 2 by omega, over_lists k1, hXn, wrap_succ (show i < 9223372036854775807 by omega)]
  exact h

theorem r20_Headers_loop {f : SlF} {b : List Nat} (hb : Fits b) (hb8 : ∀ n ∈ b, n < 256) : ∀ i, i ≤ (b.take 12).length → ∀ x : HS, x.out.length = i → HInv i x.K →
    Run T (Res [.tmp 2] (coms .lst (((b.take 12).drop i).foldl hstep x).out)) (.inLoop r20_Headers.b0 :: r20_Headers.k0) (mkE 85 [(0, bytesV f b), (3, .ref 0 (i * 5) 0 i 5), (4, .ref 1 3 0 3 1), (5, .int .i64 i)])
      [.cells false (x.out.flatMap cellsC), .cells false (lists x.K)] := by
  refine up_ind ?_ fun i hi ih x hx hK => ?_
  · intro x hx hK
    rw [run_round, run_unfold r20_Headers.b0.eq_1]
    rw [List.drop_length, List.foldl_nil]
    have hlen : (b.take 12).length = min 12 b.length := List.length_take
    by_cases h1 : (b.take 12).length < b.length
    · have h2 : ¬ (((b.take 12).length : Int) < 12) := by omega
      simp (maxSteps := 2000000) only [go_sem, h1, h2, run_unfold r20_Headers.c0.eq_1, run_unfold r20_Headers.c1.eq_1, run_unfold r20_Headers.c2.eq_1, run_unfold r20_Headers.c3.eq_1, r20_Headers.k0]
      rw [← hx, snap_coms (by rfl)]
    · simp (maxSteps := 2000000) only [go_sem, h1, run_unfold r20_Headers.c0.eq_1, run_unfold r20_Headers.c1.eq_1, run_unfold r20_Headers.c2.eq_1, run_unfold r20_Headers.c3.eq_1, r20_Headers.k0]
      rw [← hx, snap_coms (by rfl)]
  · rw [run_round, run_unfold r20_Headers.b0.eq_1]
    have hi' : i < b.length ∧ i < 12 := by simp at hi; omega
    have hn := hb8 b[i] (List.getElem_mem hi'.1)
    rw [List.drop_eq_getElem_cons hi, List.foldl_cons, List.getElem_take, hstep]
    have e1 : Int.tmod (b[i] : Int) 3 = ((b[i] % 3 : Nat) : Int) := rfl
    have e2 : IntKind.u8.wrap (Int.tdiv (b[i] : Int) 3) = ((b[i] / 3 : Nat) : Int) := wrap_quo (k := 3) hn
    have e3 : Int.tmod ((b[i] / 3 : Nat) : Int) 3 = ((b[i] / 3 % 3 : Nat) : Int) := rfl
    have e4 : IntKind.u8.wrap (Int.tdiv (b[i] : Int) 9) = ((b[i] / 9 : Nat) : Int) := wrap_quo (k := 9) hn
    have e5 : Int.tmod ((b[i] / 9 : Nat) : Int) 3 = ((b[i] / 9 % 3 : Nat) : Int) := rfl
    have hs : b[i] % 3 < 3 := Nat.mod_lt _ (by decide)
    have ht : b[i] / 3 % 3 < 3 := Nat.mod_lt _ (by decide)
    generalize b[i] % 3 = s at e1 hs ⊢
    generalize b[i] / 3 % 3 = t at e3 ht ⊢
    generalize b[i] / 9 % 3 = u at e5 ⊢
    have w1 := wrap_nat (show s < 9223372036854775808 by omega)
    have w2 := wrap_nat (show t < 9223372036854775808 by omega)
    have hL : x.K.length = 3 := hK.len
    obtain ⟨k1, g1, r1⟩ := hK.get hs
    obtain ⟨k2, g2, r2⟩ := hK.get ht
    have hlt : ((i : Int) < 12) := by omega
    have hJ := hK.join (u := u) hs ht
    have fin : Run T (Res [.tmp 2] (coms .lst (((b.take 12).drop (i + 1)).foldl hstep (hnext x s t u)).out)) (.code r20_Headers.c3 :: .inBlock 1 :: .inTrunc 2 :: .code r20_Headers.c2 :: .inLoop r20_Headers.b0 :: r20_Headers.k0) (mkE 85 [(0, bytesV f b), (3, .ref 0 (i * 5) 0 i 5), (4, .ref 1 3 0 3 1), (5, .int .i64 i), (6, .int .i64 s)])
      [.cells false (x.out.flatMap cellsC), .cells false (lists (hjoin x.K s t u))] :=
      r20_Headers_tail hx hi'.2 hJ hs (ih (hnext x s t u) (by simp [hnext, hx]) (hJ.step hs))
    by_cases hu : 0 < u
    · have hu' : (0 : Int) < (u : Int) := by omega
      have va := valid_row r1 (by omega)
      have vb := valid_row r2 (by omega)
      have e6 : hjoin x.K s t u = x.K.set s (maxL x.K[s] x.K[t]) := by unfold hjoin; rw [if_pos hu, g1, g2]
      rw [e6] at fin
      simp (maxSteps := 2000000) only [go_sem, hi'.1, hlt, e1, e2, e3, e4, e5, w1, w2, hL, hs, ht, k1, k2, hu', cutOf, va, vb, over_lists k1, show s ≤ 2 by omega, List.length_set]
      exact fin
    · have hu' : ¬ (0 : Int) < (u : Int) := by omega
      have e6 : hjoin x.K s t u = x.K := by unfold hjoin; rw [if_neg hu]
      rw [e6] at fin
      simp (maxSteps := 2000000) only [go_sem, hi'.1, hlt, e1, e2, e3, e4, e5, w1, w2, hL, hs, ht, k1, k2, hu']
      exact fin


theorem r20_Headers_spec {f : SlF} {b : List Nat} (hb : Fits b) (hb8 : ∀ n ∈ b, n < 256) {lv : List Nat} {σ : Sto} {R : Post} : Cw T true i_r20_Headers [bytesV f b] lv σ R ↔ R (coms .lst (headers b)) σ := by
  refine cw_intro T_r20_Headers (by simp only [go_sem]) (by simp) ?_; rw [run_unfold r20_Headers.main.eq_1]
  simp (maxSteps := 2000000) only [go_sem]
  have := r20_Headers_loop (f := f) hb hb8 0 (by omega) ⟨[], [zeros, zeros, zeros]⟩ rfl ⟨rfl, by decide⟩
  exact this
@[go_sem] theorem r20_Headers_call {f : SlF} {b : List Nat} (hb : Fits b) (hb8 : ∀ n ∈ b, n < 256) {Q : Post3} {k : List Item} {os : List AOper} {d : Option Nat} {e : Env} {σ : Sto} : CallK T Q k os d e σ true i_r20_Headers [bytesV f b] ↔ Run T Q (.ops os :: k) (put e d (coms .lst (headers b))) σ := r20_Headers_spec hb hb8


theorem headers_fits (b : List Nat) : (headers b).length ≤ 12 := by
  have : ∀ (l : List Nat) (x : HS), (l.foldl hstep x).out.length = x.out.length + l.length := by
    intro l
    induction l with
    | nil => intro x; rfl
    | cons a l ih => intro x; rw [List.foldl_cons, ih]; simp [hstep, hnext]; omega
  unfold headers
  rw [this]
  simp
  omega

end Go.Abs
/- Walks of chapter 20: the program's map of names, and its closed cuts. -/
set_option linter.unusedSimpArgs false
set_option linter.unusedVariables false
namespace Go.Abs
open Go
attribute [local go_sem_proc] Nat.reduceLT Nat.reduceEqDiff Nat.reduceLeDiff Nat.reduceAdd Nat.reduceSub Nat.reduceMul Int.reduceLT Int.reduceLE Int.reduceEq Int.reduceNeg
attribute [local go_sem_proc ↓] reduceIte

abbrev shN : Shape := .row [(0, 1, false, .int .i64), (1, 1, false, .int .i64)]
theorem eqA_name {a b : Nam} : eqA shN (encN a) (encN b) = some (decide (a = b)) := by
  have : decide (a = b) = (decide (a.st = b.st) && decide (a.seq = b.seq)) := by
    cases a; cases b; simp
  rw [this]
  simp only [eqA, eqParts]
  by_cases h : a.st = b.st
  · by_cases h2 : a.seq = b.seq
    · simp [h, h2]
    · simp [h, h2]
  · simp [h]

/-- names with numbers, as a map holds them -/
abbrev NMap := List (Nam × Nat)
def NMap.get (m : NMap) (n : Nam) : Option Nat := (m.find? fun p => decide (n = p.1)).map (·.2)
abbrev keysA (m : NMap) : List AVal := m.map fun p => encN p.1
abbrev valsA (m : NMap) : List AVal := m.map fun p => .int .i64 ((p.2 : Nat) : Int)

theorem findA_names (m : NMap) (n : Nam) : ∀ i, findA shN (encN n) (keysA m) i = some ((m.findIdx? fun p => decide (n = p.1)).map (· + i)) := by
  induction m with
  | nil => intro i; rfl
  | cons p m ih =>
    intro i
    simp only [List.map_cons, findA, eqA_name, List.findIdx?_cons]
    by_cases h : n = p.1
    · simp [h]
    · simp only [h, decide_false, ih]
      cases m.findIdx? fun p => decide (n = p.1) with
      | none => rfl
      | some j => simp; omega

theorem lookAV_names {m : NMap} {n : Nam} {σ : Sto} : lookAV shN (.int .i64 0) true (encN n) (keysA m) (valsA m) σ = some (match m.get n with
    | some i => .tup [.int .i64 ((i : Nat) : Int), .bool true]
    | none => .tup [.int .i64 0, .bool false], σ) := by
  unfold lookAV
  rw [eqA_name, if_pos (by simp), findA_names]
  simp only [NMap.get]
  cases h : m.findIdx? fun p => decide (n = p.1) with
  | none =>
    have : (m.find? fun p => decide (n = p.1)) = none := by
      rw [List.find?_eq_none]
      rw [List.findIdx?_eq_none_iff] at h
      intro x hx; simp [h x hx]
    simp [this]
  | some j =>
    obtain ⟨hj, hp, hlt⟩ := List.findIdx?_eq_some_iff_getElem.1 h
    have : (m.find? fun p => decide (n = p.1)) = some m[j] := by
      rw [List.find?_eq_some_iff_getElem]
      exact ⟨hp, j, hj, rfl, fun k hk => by simpa using hlt k hk⟩
    simp [this, hj]

abbrev fmapN (m : NMap) : AVal := .fmap (keysA m) (valsA m)
@[go_sem] theorem lookupV_names {m : NMap} {a b : Int} {σ : Sto} : lookupV (.row [(0, 1, false, .int .i64), (1, 1, false, .int .i64)]) (.int .i64 0) true (.fmap (m.map fun p => encN p.1) (m.map fun p => .int .i64 ((p.2 : Nat) : Int))) (.agg [.int .i64 a, .int .i64 b]) σ = some (match m.get ⟨a, b⟩ with
    | some i => .tup [.int .i64 ((i : Nat) : Int), .bool true]
    | none => .tup [.int .i64 0, .bool false], σ) := lookAV_names (n := ⟨a, b⟩)

@[go_sem] theorem lookupV_map {sh : Shape} {z i : AVal} {ok : Bool} {o : Nat} {σ : Sto} : lookupV sh z ok (.map o) i σ = match σ[o]? with
    | some (.map ks vs) => lookAV sh z ok i ks vs σ
    | _ => none := rfl
@[go_sem] theorem lookAV_name {m : NMap} {a b : Int} {σ : Sto} : lookAV (.row [(0, 1, false, .int .i64), (1, 1, false, .int .i64)]) (.int .i64 0) true (.agg [.int .i64 a, .int .i64 b]) (m.map fun p => encN p.1) (m.map fun p => .int .i64 ((p.2 : Nat) : Int)) σ = some (match m.get ⟨a, b⟩ with
    | some i => .tup [.int .i64 ((i : Nat) : Int), .bool true]
    | none => .tup [.int .i64 0, .bool false], σ) := lookAV_names (n := ⟨a, b⟩)
theorem get_none {m : NMap} {n : Nam} (h : m.get n = none) : (m.findIdx? fun p => decide (n = p.1)) = none := by
  unfold NMap.get at h
  rw [Option.map_eq_none_iff, List.find?_eq_none] at h
  rw [List.findIdx?_eq_none_iff]
  intro x hx; simpa using h x hx
theorem mapupV_new {m : NMap} {n : Nam} {i o : Nat} {σ : Sto} (h : m.get n = none) (hσ : σ[o]? = some (.map (keysA m) (valsA m))) : mapupV shN (.map o) (encN n) (.int .i64 ((i : Nat) : Int)) σ = some (.und, σ.set o (.map (keysA (m ++ [(n, i)])) (valsA (m ++ [(n, i)])))) := by
  simp only [mapupV, hσ, eqA_name, decide_true, if_true, findA_names, get_none h, Option.map_none]
  simp
theorem snap_map {m : NMap} {o n : Nat} {σ : Sto} (hσ : σ[o]? = some (.map (keysA m) (valsA m))) : snapA σ (n + 2) (.map o) = some (fmapN m) := by
  have h0 : (AVal.map o).pure = false := by simp [AVal.names]
  rw [snapA, h0]
  simp only [Bool.false_eq_true, if_false, hσ]
  rw [mapM_snapN (v_names_map (fun _ => by simp (maxSteps := 2000000) only [go_sem]) m), mapM_snapN (v_names_map (fun _ => by simp (maxSteps := 2000000) only [go_sem]) m)]

def nmStep (m : NMap) (c : Com) (i : Nat) : NMap := match m.get c.nam with
  | some _ => m
  | none => m ++ [(c.nam, i)]
def nmFrom (m : NMap) : Nat → List Com → NMap
  | _, [] => m
  | i, c :: l => nmFrom (nmStep m c i) (i + 1) l
def nmap (l : List Com) : NMap := nmFrom [] 0 l

theorem names_keys {m : NMap} {p : Nat → Bool} : AVal.namesL p (m.map fun q => encN q.1) = true := v_names_map (fun _ => by simp (maxSteps := 2000000) only [go_sem]) m
theorem names_vals {m : NMap} {p : Nat → Bool} : AVal.namesL p (m.map fun q => AVal.int .i64 ((q.2 : Nat) : Int)) = true := v_names_map (fun _ => by simp (maxSteps := 2000000) only [go_sem]) m
attribute [go_sem] names_keys names_vals

theorem cut_indices_loop {f : SlF} {l : List Com} (hl : Fits l) : ∀ i, i ≤ l.length → ∀ m : NMap,
    Run T (Res [.tmp 2] (fmapN (nmFrom m i (l.drop i)))) (.inLoop cut_indices.b0 :: cut_indices.k0) (mkE 31 [(3, .map 0), (9, coms f l), (10, .int .i64 l.length), (11, .int .i64 i)]) [.map (keysA m) (valsA m)] := by
  refine up_ind ?_ fun i hi ih m => ?_
  · intro m
    rw [run_round, run_unfold cut_indices.b0.eq_1]
    rw [List.drop_length, nmFrom]
    simp (maxSteps := 2000000) only [go_sem, run_unfold cut_indices.c0.eq_1, run_unfold cut_indices.c1.eq_1, run_unfold cut_indices.c2.eq_1, cut_indices.k0]
    exact snap_map rfl
  · rw [run_round, run_unfold cut_indices.b0.eq_1]
    rw [List.drop_eq_getElem_cons hi, nmFrom]
    cases h : m.get ⟨l[i].st, l[i].seq⟩ with
    | some j =>
      have e : nmStep m l[i] i = m := by unfold nmStep; rw [show l[i].nam = ⟨l[i].st, l[i].seq⟩ from rfl, h]
      simp (maxSteps := 2000000) only [go_sem, hi, h, e, run_unfold cut_indices.c0.eq_1, run_unfold cut_indices.c1.eq_1, run_unfold cut_indices.c2.eq_1, cut_indices.k0, wrap_succ (show i < 9223372036854775807 by omega)]
      exact ih m
    | none =>
      have e : nmStep m l[i] i = m ++ [(⟨l[i].st, l[i].seq⟩, i)] := by unfold nmStep; rw [show l[i].nam = ⟨l[i].st, l[i].seq⟩ from rfl, h]
      simp (maxSteps := 2000000) only [go_sem, hi, h, e, run_unfold cut_indices.c0.eq_1, run_unfold cut_indices.c1.eq_1, run_unfold cut_indices.c2.eq_1, cut_indices.k0, wrap_succ (show i < 9223372036854775807 by omega)]
      rw [mapupV_new (n := ⟨l[i].st, l[i].seq⟩) h (by rfl)]
      simp (maxSteps := 2000000) only [go_sem, hi, h, e, run_unfold cut_indices.c0.eq_1, run_unfold cut_indices.c1.eq_1, run_unfold cut_indices.c2.eq_1, cut_indices.k0, wrap_succ (show i < 9223372036854775807 by omega)]
      exact ih _


theorem cut_indices_spec {f : SlF} {l : List Com} (hl : Fits l) {lv : List Nat} {σ : Sto} {R : Post} : Cw T true i_cut_indices [coms f l] lv σ R ↔ R (fmapN (nmap l)) σ := by
  refine cw_intro T_cut_indices (by simp only [go_sem]) (by simp) ?_; rw [run_unfold cut_indices.main.eq_1]
  simp (maxSteps := 2000000) only [go_sem]
  exact cut_indices_loop hl 0 (by omega) []
@[go_sem] theorem cut_indices_call {f : SlF} {l : List Com} (hl : Fits l) {Q : Post3} {k : List Item} {os : List AOper} {d : Option Nat} {e : Env} {σ : Sto} : CallK T Q k os d e σ true i_cut_indices [coms f l] ↔ Run T Q (.ops os :: k) (put e d (fmapN (nmap l))) σ := cut_indices_spec hl


/-- the map has the first index of each name -/
theorem nmFrom_get (m : NMap) (i : Nat) (l : List Com) (n : Nam) : (nmFrom m i l).get n = match m.get n with
    | some j => some j
    | none => (l.findIdx? (isN n)).map (· + i) := by
  induction l generalizing m i with
  | nil => simp only [nmFrom, List.findIdx?_nil, Option.map_none]; cases m.get n <;> rfl
  | cons c l ih =>
    rw [nmFrom, ih, List.findIdx?_cons]
    have happ : ∀ (m : NMap) (a : Nam) (j : Nat), NMap.get (m ++ [(a, j)]) n = match m.get n with
        | some k => some k
        | none => if n = a then some j else none := by
      intro m a j
      simp only [NMap.get, List.find?_append]
      cases m.find? fun p => decide (n = p.1) with
      | some k => rfl
      | none => by_cases h : n = a <;> simp [h]
    have hn : isN n c = decide (n = c.nam) := by
      unfold isN Com.nam
      cases n with
      | mk a b =>
        simp only [Nam.mk.injEq]
        by_cases h1 : c.st = a
        · by_cases h2 : c.seq = b
          · simp [h1, h2]
          · simp [h2, Ne.symm h2]
        · simp [h1, Ne.symm h1]
    unfold nmStep
    cases hc : m.get c.nam with
    | some k =>
      simp only
      cases hm : m.get n with
      | some j => rfl
      | none =>
        simp only
        have hne : ¬ n = c.nam := fun e => by rw [e, hc] at hm; simp at hm
        rw [hn]
        simp only [hne, decide_false, Bool.false_eq_true, if_false]
        cases l.findIdx? (isN n) with
        | none => rfl
        | some j => simp; omega
    | none =>
      simp only
      rw [happ]
      cases hm : m.get n with
      | some j => rfl
      | none =>
        simp only
        rw [hn]
        by_cases h : n = c.nam
        · simp [h]
        · simp only [h, if_false, decide_false, Bool.false_eq_true]
          cases l.findIdx? (isN n) with
          | none => rfl
          | some j => simp; omega

theorem nmap_get (l : List Com) (n : Nam) : (nmap l).get n = l.findIdx? (isN n) := by
  unfold nmap
  rw [nmFrom_get]
  simp [NMap.get]

theorem nmap_cases (l : List Com) (n : Nam) : ((nmap l).get n = none ∧ l.find? (isN n) = none) ∨ ∃ (j : Nat) (h : j < l.length), (nmap l).get n = some j ∧ l.find? (isN n) = some l[j] := by
  rw [nmap_get]
  cases h : l.findIdx? (isN n) with
  | none =>
    left
    refine ⟨rfl, ?_⟩
    rw [List.find?_eq_none]
    rw [List.findIdx?_eq_none_iff] at h
    intro x hx; simp [h x hx]
  | some j =>
    right
    obtain ⟨hj, hp, hlt⟩ := List.findIdx?_eq_some_iff_getElem.1 h
    refine ⟨j, hj, rfl, ?_⟩
    rw [List.find?_eq_some_iff_getElem]
    exact ⟨hp, j, hj, rfl, fun k hk => by simpa using hlt k hk⟩

end Go.Abs
/- Walks of chapter 20: the program's closed cuts. -/
set_option linter.unusedSimpArgs false
set_option linter.unusedVariables false
namespace Go.Abs
open Go
attribute [local go_sem_proc] Nat.reduceLT Nat.reduceEqDiff Nat.reduceLeDiff Nat.reduceAdd Nat.reduceSub Nat.reduceMul Int.reduceLT Int.reduceLE Int.reduceEq Int.reduceNeg
attribute [local go_sem_proc ↓] reduceIte

/-- the first station from s on, of d, that has too much -/
def firstS (l : List Com) (c : List Int) (s : Nat) : Nat → Option Nat
  | 0 => none
  | d + 1 => if full l c s = true then firstS l c (s + 1) d else some s
def reachF (l : List Com) : Nat → List Int → List Int
  | 0, c => c
  | n + 1, c => match firstS l c 0 6 with
    | none => c
    | some s => reachF l n (c.set s (fit l c s : Nat))

theorem cut_reach_q {f : SlF} {l : List Com} {c : List Int} {s m : Nat} {Q : Post3} (hl : Fits l) (hv : valid c = true) (hs : s < 6) (hm : c.getD s 0 = (m : Int)) (hb : m < 1000)
    (hgood : fit l c s = m → Run T Q (.inLoop cut_reach.b1 :: cut_reach.k1) (mkE 58 [(0, coms f l), (1, .ref 0 6 0 6 1), (4, fmapN (nmap l)), (5, .bool false), (13, .int .i64 ((s + 1 : Nat) : Int))]) [.cells false (c.map fun n => .int .i64 n)])
    (hbad : fit l c s < m → Run T Q (.inLoop cut_reach.b0 :: cut_reach.k0) (mkE 58 [(0, coms f l), (1, .ref 0 6 0 6 1), (4, fmapN (nmap l)), (5, .bool true)]) [.cells false ((c.set s (fit l c s : Nat)).map fun n => .int .i64 n)]) :
    ∀ d q, q + d = m → lead (okq l c s) q d = fit l c s →
    Run T Q (.inLoop cut_reach.b2 :: cut_reach.k2) (mkE 58 [(0, coms f l), (1, .ref 0 6 0 6 1), (4, fmapN (nmap l)), (5, .bool false), (6, .int .i64 s), (13, .int .i64 s), (19, .int .i64 m), (20, .int .i64 q)]) [.cells false (c.map fun n => .int .i64 n)] := by
  have h6 := valid_len hv
  have hsl : s < c.length := by omega
  have hw1 := wrap_succ (show s < 9223372036854775807 by omega)
  intro d
  induction d with
  | zero =>
    intro q hq hf
    have hqm : q = m := by omega
    subst hqm
    rw [run_round, run_unfold cut_reach.b2.eq_1]
    simp (maxSteps := 2000000) only [go_sem, run_unfold cut_reach.c0.eq_1, run_unfold cut_reach.c1.eq_1, run_unfold cut_reach.c2.eq_1, cut_reach.k0, cut_reach.k1, cut_reach.k2, hw1]
    exact hgood hf.symm
  | succ d ih =>
    intro q hq hf
    rw [run_round, run_unfold cut_reach.b2.eq_1]
    have hlt : (q : Int) < (m : Int) := by omega
    have hw := wrap_succ (show q < 9223372036854775807 by omega)
    have bad : okq l c s (q + 1) = false → fit l c s = q := fun h => by rw [← hf, lead, h]; rfl
    have good : okq l c s (q + 1) = true → lead (okq l c s) (q + 1) d = fit l c s := fun h => by rw [← hf, lead, h]; rfl
    rcases nmap_cases l ⟨s, ((q + 1 : Nat) : Int)⟩ with ⟨h1, h2⟩ | ⟨j, hj, h1, h2⟩
    · have hk : okq l c s (q + 1) = false := by unfold okq; rw [h2]
      have hq2 := bad hk
      have := hbad (by omega)
      rw [hq2] at this
      simp (maxSteps := 2000000) only [go_sem, run_unfold cut_reach.c0.eq_1, run_unfold cut_reach.c1.eq_1, run_unfold cut_reach.c2.eq_1, cut_reach.k0, cut_reach.k1, cut_reach.k2, hlt, hw, h1, hs, hsl, h6, show s ≤ 5 by omega, show s + 1 ≤ 6 by omega]
      exact this
    · cases h3 : wf l[j]
      · have hk : okq l c s (q + 1) = false := by unfold okq; rw [h2]; simp [h3]
        have hq2 := bad hk
        have := hbad (by omega)
        rw [hq2] at this
        simp (maxSteps := 2000000) only [go_sem, run_unfold cut_reach.c0.eq_1, run_unfold cut_reach.c1.eq_1, run_unfold cut_reach.c2.eq_1, cut_reach.k0, cut_reach.k1, cut_reach.k2, hlt, hw, h1, hj, h3, hs, hsl, h6, show s + 1 ≤ 6 by omega]
        exact this
      · have hleq : ∀ {Q : Post3} {k : List Item} {os : List AOper} {d : Option Nat} {e : Env}, CallK T Q k os d e [.cells false (c.map fun n => .int .i64 n)] true i_cut_Leq [ints l[j].pf l[j].past, .ref 0 6 0 6 1] ↔ Run T Q (.ops os :: k) (put e d (.bool (leq l[j].past c))) [.cells false (c.map fun n => .int .i64 n)] := by
          intro Q k os d e
          exact callK_live T_cut_Leq (as := [ints l[j].pf l[j].past, ints .lst c]) cut_Leq_spec (by
            rw [mapM_scons, snapDepth_eq, snapA_step (by simp (maxSteps := 2000000) only [go_sem]), mapM_scons, snap_lit (c := c) (by rfl) h6, mapM_snil]) (by simp (maxSteps := 2000000) only [go_sem]) rfl
        cases h4 : leq l[j].past c
        · have hk : okq l c s (q + 1) = false := by unfold okq; rw [h2]; simp [h3, h4]
          have hq2 := bad hk
          have := hbad (by omega)
          rw [hq2] at this
          simp (maxSteps := 2000000) only [go_sem, run_unfold cut_reach.c0.eq_1, run_unfold cut_reach.c1.eq_1, run_unfold cut_reach.c2.eq_1, cut_reach.k0, cut_reach.k1, cut_reach.k2, hlt, hw, h1, hj, h3, hleq, h4, hs, hsl, h6, show s + 1 ≤ 6 by omega]
          exact this
        · have hk : okq l c s (q + 1) = true := by unfold okq; rw [h2]; simp [h3, h4]
          simp (maxSteps := 2000000) only [go_sem, run_unfold cut_reach.c0.eq_1, run_unfold cut_reach.c1.eq_1, run_unfold cut_reach.c2.eq_1, cut_reach.k0, cut_reach.k1, cut_reach.k2, hlt, hw, h1, hj, h3, hleq, h4, hs, hsl, h6]
          exact ih (q + 1) (by omega) (good hk)

theorem full_iff {l : List Com} {c : List Int} (hv : valid c = true) {s : Nat} (hs : s < 6) {m : Nat} (hm : c.getD s 0 = (m : Int)) : full l c s = decide (fit l c s = m) := by
  have h := fit_le (l := l) (c := c) (s := s)
  rw [hm] at h
  unfold full
  rw [hm]
  by_cases e : fit l c s = m
  · simp [e]
  · have : fit l c s < m := by
      have : ((m : Int)).toNat = m := rfl
      omega
    simp [e, this]

theorem cut_reach_s {f : SlF} {l : List Com} {c : List Int} {Q : Post3} (hl : Fits l) (hv : valid c = true)
    (hgood : firstS l c 0 6 = none → Run T Q (.inLoop cut_reach.b0 :: cut_reach.k0) (mkE 58 [(0, coms f l), (1, .ref 0 6 0 6 1), (4, fmapN (nmap l)), (5, .bool false)]) [.cells false (c.map fun n => .int .i64 n)])
    (hbad : ∀ s, firstS l c 0 6 = some s → s < 6 → fit l c s < (c.getD s 0).toNat → Run T Q (.inLoop cut_reach.b0 :: cut_reach.k0) (mkE 58 [(0, coms f l), (1, .ref 0 6 0 6 1), (4, fmapN (nmap l)), (5, .bool true)]) [.cells false ((c.set s (fit l c s : Nat)).map fun n => .int .i64 n)]) :
    ∀ i, i ≤ 6 → firstS l c i (6 - i) = firstS l c 0 6 →
    Run T Q (.inLoop cut_reach.b1 :: cut_reach.k1) (mkE 58 [(0, coms f l), (1, .ref 0 6 0 6 1), (4, fmapN (nmap l)), (5, .bool false), (13, .int .i64 i)]) [.cells false (c.map fun n => .int .i64 n)] := by
  have h6 := valid_len hv
  refine up_ind ?_ fun i hi ih hf => ?_
  · intro hf
    rw [run_round, run_unfold cut_reach.b1.eq_1]
    simp (maxSteps := 2000000) only [go_sem, run_unfold cut_reach.c0.eq_1, run_unfold cut_reach.c1.eq_1, run_unfold cut_reach.c2.eq_1, cut_reach.k0, cut_reach.k1, cut_reach.k2]
    exact hgood hf.symm
  · rw [run_round, run_unfold cut_reach.b1.eq_1]
    have hil : i < c.length := by omega
    obtain ⟨m, g1, g2, g3⟩ := valid_get hv hil
    have hgd : c.getD i 0 = c[i] := by rw [List.getD_eq_getElem?_getD, List.getElem?_eq_getElem hil]; rfl
    have hfu := full_iff (l := l) hv hi (hgd.trans g1)
    rw [show 6 - i = (6 - (i + 1)) + 1 by omega, firstS] at hf
    simp (maxSteps := 2000000) only [go_sem, run_unfold cut_reach.c0.eq_1, run_unfold cut_reach.c1.eq_1, run_unfold cut_reach.c2.eq_1, cut_reach.k0, cut_reach.k1, cut_reach.k2, show ((i : Int) < 6) by omega, hil, h6, hi, g1]
    refine cut_reach_q hl hv hi (hgd.trans g1) g2 (fun he => ?_) (fun hlt => ?_) m 0 (by omega) (by unfold fit; rw [g3])
    · have : full l c i = true := by rw [hfu, he]; simp
      rw [if_pos this] at hf
      exact ih hf
    · have : full l c i = false := by rw [hfu]; simp; omega
      rw [this] at hf
      simp only [Bool.false_eq_true, if_false] at hf
      exact hbad i hf.symm hi (by rw [g3]; exact hlt)

theorem cut_reach_loop {f : SlF} {l : List Com} {Q : Post3} (hl : Fits l) : ∀ n (c : List Int), valid c = true → total c < n →
    (∀ e, Q .normal e [.cells false ((reachF l n c).map fun n => .int .i64 n)]) →
    Run T Q (.inLoop cut_reach.b0 :: cut_reach.k0) (mkE 58 [(0, coms f l), (1, .ref 0 6 0 6 1), (4, fmapN (nmap l)), (5, .bool true)]) [.cells false (c.map fun n => .int .i64 n)] := by
  intro n
  induction n with
  | zero => intro c _ h; omega
  | succ n ih =>
    intro c hv hn hQ
    rw [run_round, run_unfold cut_reach.b0.eq_1]
    simp (maxSteps := 2000000) only [go_sem, run_unfold cut_reach.c0.eq_1, run_unfold cut_reach.c1.eq_1, run_unfold cut_reach.c2.eq_1, cut_reach.k0, cut_reach.k1, cut_reach.k2]
    refine cut_reach_s hl hv (fun hf => ?_) (fun s hf hs hlt => ?_) 0 (by omega) rfl
    · rw [run_round, run_unfold cut_reach.b0.eq_1]
      simp (maxSteps := 2000000) only [go_sem, run_unfold cut_reach.c0.eq_1, run_unfold cut_reach.c1.eq_1, run_unfold cut_reach.c2.eq_1, cut_reach.k0, cut_reach.k1, cut_reach.k2]
      have := hQ
      rw [reachF, hf] at this
      exact this _
    · have hsl : s < c.length := by rw [valid_len hv]; exact hs
      have h3 := total_set (v := fit l c s) hsl
      refine ih _ (valid_set hv (by omega) (fit_small hv hs)) (by omega) fun e => ?_
      have := hQ e
      rw [reachF, hf] at this
      exact this

theorem cut_reach_spec {f : SlF} {l : List Com} {c : List Int} (hl : Fits l) (hv : valid c = true) {R : Post} : Cw T false i_cut_reach [coms f l, .ref 0 6 0 6 1] [] [.cells false (c.map fun n => .int .i64 n)] R ↔ R (.tup []) [.cells false ((reachF l 6000 c).map fun n => .int .i64 n)] := by
  refine Cw.iff_of fun R hR => ?_
  rw [cw_enter T_cut_reach (by simp), run_unfold cut_reach.main.eq_1]
  simp (maxSteps := 2000000) only [go_sem, hl]
  refine cut_reach_loop hl 6000 c hv (total_le hv) fun e => ?_
  exact hR

end Go.Abs
/- Walks of chapter 20: closed, greatest, consistent. -/
set_option linter.unusedSimpArgs false
set_option linter.unusedVariables false
namespace Go.Abs
open Go
attribute [local go_sem_proc] Nat.reduceLT Nat.reduceEqDiff Nat.reduceLeDiff Nat.reduceAdd Nat.reduceSub Nat.reduceMul Int.reduceLT Int.reduceLE Int.reduceEq Int.reduceNeg
attribute [local go_sem_proc ↓] reduceIte

theorem slices_Equal_int_loop {f g : SlF} {a b : List Int} (ha : Fits a) (hb : b.length = a.length) : ∀ i, i ≤ a.length →
    Run T (Res [.tmp 4] (.bool (decide (a.drop i = b.drop i)))) (.inLoop slices_Equal_int.b0 :: slices_Equal_int.k0) (mkE 26 [(0, ints f a), (1, ints g b), (12, .int .i64 a.length), (13, .int .i64 i)]) [] := by
  refine up_ind ?_ fun i hi ih => ?_
  · rw [run_round, run_unfold slices_Equal_int.b0.eq_1]
    simp (maxSteps := 2000000) only [go_sem, run_unfold slices_Equal_int.c0.eq_1, run_unfold slices_Equal_int.c1.eq_1, slices_Equal_int.k0, List.drop_length, show b.drop a.length = [] by rw [← hb]; exact List.drop_length]
  · rw [run_round, run_unfold slices_Equal_int.b0.eq_1]
    have h2 : i < b.length := by omega
    rw [List.drop_eq_getElem_cons hi, List.drop_eq_getElem_cons h2]
    simp (maxSteps := 2000000) only [go_sem, hi, h2, List.cons.injEq]
    by_cases h : a[i] = b[i]
    · simp (maxSteps := 2000000) only [go_sem, h, wrap_succ (show i < 9223372036854775807 by omega)]
      exact ih
    · simp (maxSteps := 2000000) only [go_sem, h]

theorem slices_Equal_int_spec {f g : SlF} {a b : List Int} (ha : Fits a) {lv : List Nat} {σ : Sto} {R : Post} : Cw T true i_slices_Equal_int [ints f a, ints g b] lv σ R ↔ R (.bool (decide (a = b))) σ := by
  refine cw_intro T_slices_Equal_int (by simp only [go_sem]) (by simp) ?_; rw [run_unfold slices_Equal_int.main.eq_1]
  simp (maxSteps := 2000000) only [go_sem]
  by_cases h : a.length = b.length
  · simp (maxSteps := 2000000) only [go_sem, h]
    have := slices_Equal_int_loop (f := f) (g := g) ha h.symm 0 (by omega)
    rw [h] at this
    exact this
  · have h' : ¬ a = b := fun e => h (by rw [e])
    have h2 : ¬ ((a.length : Int) = (b.length : Int)) := by omega
    simp (maxSteps := 2000000) only [go_sem, h2, h']
@[go_sem] theorem slices_Equal_int_call {f g : SlF} {a b : List Int} (ha : Fits a) {Q : Post3} {k : List Item} {os : List AOper} {d : Option Nat} {e : Env} {σ : Sto} : CallK T Q k os d e σ true i_slices_Equal_int [ints f a, ints g b] ↔ Run T Q (.ops os :: k) (put e d (.bool (decide (a = b)))) σ := slices_Equal_int_spec ha


theorem reachF_valid {l : List Com} : ∀ n (c : List Int), valid c = true → valid (reachF l n c) = true
  | 0, c, h => h
  | n + 1, c, h => by
    unfold reachF
    split
    · exact h
    · rename_i s hs
      have hs6 : s < 6 := by
        have : ∀ d i, firstS l c i d = some s → s < i + d := by
          intro d
          induction d with
          | zero => intro i h; simp [firstS] at h
          | succ d ih =>
            intro i h
            unfold firstS at h
            split at h
            · have := ih (i + 1) h; omega
            · simp at h; omega
        exact this 6 0 hs
      exact reachF_valid n _ (valid_set h (by omega) (fit_small h hs6))

theorem ne_nil_of_valid {c : List Int} (h : valid c = true) : c ≠ [] := by intro e; have := valid_len h; rw [e] at this; simp at this
theorem bytes_of_valid {c : List Int} (h : valid c = true) : c.length * 8 ≤ maxBytes := by have := valid_len h; unfold maxBytes; omega

theorem snap_litN {σ : Sto} {n o m : Nat} {c : List Int} (hσ : σ[o]? = some (.cells false (c.map fun n => AVal.int .i64 n))) (hm : c.length = m) : snapA σ (n + 2) (.ref o m 0 m 1) = some (ints .lst c) := by
  subst hm; exact snap_ints hσ

def closedP (l : List Com) (c : List Int) : Bool := valid c && decide (reachF l 6000 c = c)

theorem cut_Closed_spec {f g : SlF} {l : List Com} {c : List Int} (hl : Fits l) {lv : List Nat} {σ : Sto} {R : Post} : Cw T true i_cut_Closed [coms f l, ints g c] lv σ R ↔ R (.bool (closedP l c)) σ := by
  refine cw_intro T_cut_Closed (by simp only [go_sem]) (by simp) ?_; rw [run_unfold cut_Closed.main.eq_1]
  unfold closedP
  cases hv : valid c
  case false => simp (maxSteps := 2000000) only [go_sem, hv]
  have h6 := valid_len hv
  simp (maxSteps := 2000000) only [go_sem, hv, ne_nil_of_valid hv, bytes_of_valid hv]
  rw [h6, callK_shared (cut_reach_spec hl hv)]
  simp (maxSteps := 2000000) only [go_sem]
  have hr := reachF_valid (l := l) 6000 c hv
  rw [callK_live T_slices_Equal_int (as := [ints .lst (reachF l 6000 c), ints g c]) (slices_Equal_int_spec (fits_of_valid hr)) (by
    rw [mapM_scons, snapDepth_eq, snap_lit (c := reachF l 6000 c) (by rfl) (valid_len hr), mapM_scons, snapA_step (by simp (maxSteps := 2000000) only [go_sem]), mapM_snil]) (by simp (maxSteps := 2000000) only [go_sem]) rfl]
  simp (maxSteps := 2000000) only [go_sem]
@[go_sem] theorem cut_Closed_call {f g : SlF} {l : List Com} {c : List Int} (hl : Fits l) {Q : Post3} {k : List Item} {os : List AOper} {d : Option Nat} {e : Env} {σ : Sto} : CallK T Q k os d e σ true i_cut_Closed [coms f l, ints g c] ↔ Run T Q (.ops os :: k) (put e d (.bool (closedP l c))) σ := cut_Closed_spec hl


def greatestP (l : List Com) (c : List Int) : Cut := if valid c = true then ⟨.lst, reachF l 6000 c, 0⟩ else ⟨.nil, [], 200⟩

/-! ### Consistent lists -/
theorem slices_IndexFunc_Commit_loop {f : SlF} {l : List Com} (hl : Fits l) {g : FuncId} {p : Com → Bool} (hg : ∀ {x : Com} {lv : List Nat} {σ : Sto} {R : Post}, Cw T true g [encC x] lv σ R ↔ R (.bool (p x)) σ) : ∀ i, i ≤ l.length →
    Run T (Res [.tmp 4] (.int .i64 (match (l.drop i).findIdx? p with | some j => (i + j : Nat) | none => -1))) (.inLoop slices_IndexFunc_Commit.b0 :: slices_IndexFunc_Commit.k0) (mkE 19 [(0, coms f l), (1, .clo (.func g) [] []), (7, .int .i64 l.length), (8, .int .i64 i)]) [] := by
  refine up_ind ?_ fun i hi ih => ?_
  · rw [run_round, run_unfold slices_IndexFunc_Commit.b0.eq_1]
    simp (maxSteps := 2000000) only [go_sem, run_unfold slices_IndexFunc_Commit.c0.eq_1, run_unfold slices_IndexFunc_Commit.c1.eq_1, slices_IndexFunc_Commit.k0, List.drop_length, List.findIdx?_nil]
  · rw [run_round, run_unfold slices_IndexFunc_Commit.b0.eq_1]
    rw [List.drop_eq_getElem_cons hi]
    have hc : ∀ {Q : Post3} {k : List Item} {os : List AOper} {d : Option Nat} {e : Env} {σ : Sto}, CallK T Q k os d e σ true g [encC l[i]] ↔ Run T Q (.ops os :: k) (put e d (.bool (p l[i]))) σ := callK_of hg
    simp (maxSteps := 2000000) only [go_sem, hi, List.findIdx?_cons, hc]
    cases hp : p l[i]
    · simp (maxSteps := 2000000) only [go_sem, wrap_succ (show i < 9223372036854775807 by omega)]
      refine Eq.mp (congrArg (fun v => Run T (Res [.tmp 4] (.int .i64 v)) _ _ _) ?_) ih
      cases (l.drop (i + 1)).findIdx? p with
      | none => rfl
      | some j => simp; omega
    · simp (maxSteps := 2000000) only [go_sem, Nat.add_zero]

theorem slices_IndexFunc_Commit_spec {f : SlF} {l : List Com} (hl : Fits l) {g : FuncId} {p : Com → Bool} (hg : ∀ {x : Com} {lv : List Nat} {σ : Sto} {R : Post}, Cw T true g [encC x] lv σ R ↔ R (.bool (p x)) σ) {lv : List Nat} {σ : Sto} {R : Post} :
    Cw T true i_slices_IndexFunc_Commit [coms f l, .clo (.func g) [] []] lv σ R ↔ R (.int .i64 (idxOf p l)) σ := by
  refine cw_intro T_slices_IndexFunc_Commit (by simp only [go_sem]) (by simp) ?_; rw [run_unfold slices_IndexFunc_Commit.main.eq_1]
  simp (maxSteps := 2000000) only [go_sem]
  have := slices_IndexFunc_Commit_loop (f := f) hl hg 0 (by omega)
  simp only [List.drop_zero, Nat.zero_add] at this
  exact this

def consistentP (l : List Com) : Bool := decide ((nmap l).length = l.length) && l.all wf && l.all fun c => knownL l c.past 0 c.past

end Go.Abs
/- Plain laws of chapter 20: the lists that the reference makes are consistent. -/
set_option linter.unusedSimpArgs false
set_option linter.unusedVariables false
namespace Go.Abs
open Go

def le (a b : List Int) : Prop := ∀ t : Nat, a.getD t 0 ≤ b.getD t 0
def Clo (out : List Com) (R : List Int) : Prop := ∀ (t : Nat) (q : Int), 1 ≤ q → q ≤ R.getD t 0 → ∃ c ∈ out, c.st = (t : Int) ∧ c.seq = q ∧ le (own c) R

theorem getD_setI {a : List Int} {s t : Nat} {v : Int} (h : s < a.length) : (a.set s v).getD t 0 = if t = s then v else a.getD t 0 := by
  simp only [List.getD_eq_getElem?_getD, List.getElem?_set]
  by_cases e : t = s
  · subst e; simp [h]
  · rw [if_neg (Ne.symm e), if_neg e]
theorem getD_maxL {a b : List Int} (h : a.length = b.length) (t : Nat) : (maxL a b).getD t 0 = if a.getD t 0 < b.getD t 0 then b.getD t 0 else a.getD t 0 := by
  simp only [maxL, List.getD_eq_getElem?_getD, List.getElem?_zipWith]
  by_cases ht : t < a.length
  · simp [List.getElem?_eq_getElem ht, List.getElem?_eq_getElem (h ▸ ht : t < b.length)]
  · simp [List.getElem?_eq_none (show a.length ≤ t by omega), List.getElem?_eq_none (show b.length ≤ t by omega)]
theorem getD_mem {a : List Int} {t : Nat} (h : t < a.length) : a.getD t 0 ∈ a := by
  rw [List.getD_eq_getElem?_getD, List.getElem?_eq_getElem h]; exact List.getElem_mem h

theorem Clo.join {out : List Com} {a b : List Int} (h : a.length = b.length) (ha : Clo out a) (hb : Clo out b) : Clo out (maxL a b) := by
  intro t q h1 h2
  rw [getD_maxL h] at h2
  have la : le a (maxL a b) := fun t => by rw [getD_maxL h]; split <;> omega
  have lb : le b (maxL a b) := fun t => by rw [getD_maxL h]; split <;> omega
  split at h2
  · obtain ⟨c, hc, e1, e2, e3⟩ := hb t q h1 h2
    exact ⟨c, hc, e1, e2, fun t => Int.le_trans (e3 t) (lb t)⟩
  · obtain ⟨c, hc, e1, e2, e3⟩ := ha t q h1 h2
    exact ⟨c, hc, e1, e2, fun t => Int.le_trans (e3 t) (la t)⟩
theorem Clo.mono {out out' : List Com} {a : List Int} (h : Clo out a) (hs : ∀ c ∈ out, c ∈ out') : Clo out' a := fun t q h1 h2 => by
  obtain ⟨c, hc, e⟩ := h t q h1 h2
  exact ⟨c, hs c hc, e⟩

structure CGood (out : List Com) (c : Com) : Prop where
  s0 : 0 ≤ c.st
  s3 : c.st < 3
  len : c.past.length = 6
  row : ∀ x ∈ c.past, 0 ≤ x ∧ x ≤ 12
  seq : c.seq = c.past.getD c.st.toNat 0 + 1
  clo : Clo out c.past
structure HGood (x : HS) : Prop where
  inv : HInv x.out.length x.K
  clo : ∀ R ∈ x.K, Clo x.out R
  coms : ∀ c ∈ x.out, CGood x.out c
  top : ∀ c ∈ x.out, c.seq ≤ (x.K.getD c.st.toNat []).getD c.st.toNat 0
  nd : x.out.Pairwise fun a b => ¬ (a.st = b.st ∧ a.seq = b.seq)

theorem getD_setL {K : List (List Int)} {s t : Nat} {v : List Int} (h : s < K.length) : (K.set s v).getD t [] = if t = s then v else K.getD t [] := by
  simp only [List.getD_eq_getElem?_getD, List.getElem?_set]
  by_cases e : t = s
  · subst e; simp [h]
  · rw [if_neg (Ne.symm e), if_neg e]

theorem HGood.next {x : HS} (h : HGood x) (hn : x.out.length < 12) {s t u : Nat} (hs : s < 3) (ht : t < 3) : HGood (hnext x s t u) := by
  obtain ⟨K, hK⟩ : ∃ K, hjoin x.K s t u = K := ⟨_, rfl⟩
  have hI := h.inv.join (u := u) hs ht
  rw [hK] at hI
  obtain ⟨k1, g1, r1⟩ := h.inv.get hs
  obtain ⟨k2, g2, r2⟩ := h.inv.get ht
  obtain ⟨k3, g3, r3⟩ := hI.get hs
  have mem1 : x.K[s] ∈ x.K := List.getElem_mem k1
  have mem2 : x.K[t] ∈ x.K := List.getElem_mem k2
  -- the joined rows are closed
  have hclo : ∀ R ∈ K, Clo x.out R := by
    intro R hR
    rw [← hK] at hR
    unfold hjoin at hR
    split at hR
    · rcases List.mem_or_eq_of_mem_set hR with hR | rfl
      · exact h.clo R hR
      · rw [g1, g2]; exact Clo.join (by rw [r1.1, r2.1]) (h.clo _ mem1) (h.clo _ mem2)
    · exact h.clo R hR
  -- what a row says of a station is at most what the station says of itself
  have hle : ∀ R ∈ x.K, ∀ a : Nat, a < 3 → R.getD a 0 ≤ (x.K.getD a []).getD a 0 := by
    intro R hR a ha
    rcases Int.lt_or_le (R.getD a 0) 1 with h1 | h1
    · obtain ⟨k4, g4, r4⟩ := h.inv.get ha
      have : 0 ≤ (x.K.getD a []).getD a 0 := by
        rw [g4]; exact (r4.2 _ (getD_mem (by omega))).1
      omega
    · obtain ⟨c, hc, e1, e2, _⟩ := h.clo R hR a _ h1 (Int.le_refl _)
      have := h.top c hc
      rw [e1, e2] at this
      simpa using this
  have hdiag : ∀ a : Nat, (K.getD a []).getD a 0 = (x.K.getD a []).getD a 0 ∨ ¬ a < 3 := by
    intro a
    by_cases ha : a < 3
    · left
      rw [← hK]
      unfold hjoin
      split
      · rw [getD_setL k1]
        split
        · rename_i e; subst e
          rw [g1, g2, getD_maxL (by rw [r1.1, r2.1])]
          have := hle _ mem2 a ha
          rw [g1] at this
          rw [if_neg (by omega)]
        · rfl
      · rfl
    · exact .inr ha
  have hc : hcom K s = mkCom s (K[s].getD s 0 + 1) K[s] := by unfold hcom; rw [g3]
  have hout : (hnext x s t u).out = x.out ++ [hcom K s] := by simp only [hnext, hK]
  have hKn : (hnext x s t u).K = K.set s (own (hcom K s)) := by simp only [hnext, hK]
  have hsub : ∀ c ∈ x.out, c ∈ x.out ++ [hcom K s] := fun c hc => by simp [hc]
  have hown : own (hcom K s) = K[s].set s (K[s].getD s 0 + 1) := by rw [hc]; rfl
  have hs6 : s < K[s].length := by omega
  have hgo : ∀ a, (own (hcom K s)).getD a 0 = if a = s then K[s].getD s 0 + 1 else K[s].getD a 0 := fun a => by rw [hown, getD_setI hs6]
  have hpo : le K[s] (own (hcom K s)) := fun a => by rw [hgo]; split; · rename_i e; subst e; omega
                                                     · omega
  have hcK : Clo (x.out ++ [hcom K s]) K[s] := (hclo _ (List.getElem_mem k3)).mono hsub
  have hnew : CGood (x.out ++ [hcom K s]) (hcom K s) := by
    rw [hc] at hcK ⊢
    refine ⟨by show (0 : Int) ≤ (s : Int); omega, by show ((s : Nat) : Int) < 3; omega, r3.1, fun v hv => ?_, ?_, hcK⟩
    · have := r3.2 v hv; omega
    · show K[s].getD s 0 + 1 = K[s].getD ((s : Int)).toNat 0 + 1
      rw [Int.toNat_natCast]
  have hst : (hcom K s).st = (s : Int) := by rw [hc]; rfl
  have hsq : (hcom K s).seq = K[s].getD s 0 + 1 := by rw [hc]; rfl
  have hds : K[s].getD s 0 = (x.K.getD s []).getD s 0 := by have := (hdiag s).resolve_right (by omega); rwa [g3] at this
  refine ⟨?_, ?_, ?_, ?_, ?_⟩
  · rw [hout, hKn]; simpa using hI.step hs
  · rw [hout, hKn]
    intro R hR
    rcases List.mem_or_eq_of_mem_set hR with hR | rfl
    · exact (hclo R hR).mono hsub
    · intro a q h1 h2
      rw [hgo] at h2
      by_cases ha : a = s
      · rw [if_pos ha] at h2
        rcases Int.lt_or_le (K[s].getD s 0) q with hq | hq
        · exact ⟨hcom K s, by simp, by rw [hst, ha], by rw [hsq]; omega, fun _ => Int.le_refl _⟩
        · obtain ⟨c, m, e1, e2, e3⟩ := hcK a q h1 (by rw [ha]; exact hq)
          exact ⟨c, m, e1, e2, fun z => Int.le_trans (e3 z) (hpo z)⟩
      · rw [if_neg ha] at h2
        obtain ⟨c, m, e1, e2, e3⟩ := hcK a q h1 h2
        exact ⟨c, m, e1, e2, fun z => Int.le_trans (e3 z) (hpo z)⟩
  · rw [hout]
    intro c hm
    rcases List.mem_append.1 hm with hm | hm
    · have := h.coms c hm
      exact ⟨this.s0, this.s3, this.len, this.row, this.seq, this.clo.mono hsub⟩
    · obtain rfl := List.mem_singleton.1 hm
      exact hnew
  · rw [hout, hKn]
    intro c hm
    have k3' : s < K.length := k3
    rw [getD_setL k3']
    rcases List.mem_append.1 hm with hm | hm
    · have h1 := h.top c hm
      have h2 := h.coms c hm
      have h3 : c.st.toNat < 3 := by have := h2.s0; have := h2.s3; omega
      split
      · rename_i e
        rw [hgo, if_pos e]
        rw [e] at h1; omega
      · have := (hdiag c.st.toNat).resolve_right (by omega)
        rw [this]; exact h1
    · obtain rfl := List.mem_singleton.1 hm
      rw [hst, Int.toNat_natCast, if_pos rfl, hgo, if_pos rfl, hsq]
      omega
  · rw [hout, List.pairwise_append]
    refine ⟨h.nd, List.pairwise_singleton _ _, fun a ha b hb => ?_⟩
    obtain rfl := List.mem_singleton.1 hb
    rintro ⟨e1, e2⟩
    have h1 := h.top a ha
    rw [e1, e2, hst, Int.toNat_natCast, hsq, hds] at h1
    omega

theorem headers_good (b : List Nat) : HGood ((b.take 12).foldl hstep ⟨[], [zeros, zeros, zeros]⟩) := by
  have key : ∀ (l : List Nat) (x : HS), HGood x → x.out.length + l.length ≤ 12 → HGood (l.foldl hstep x) := by
    intro l
    induction l with
    | nil => intro x h _; exact h
    | cons a l ih =>
      intro x h hn
      simp only [List.length_cons] at hn
      rw [List.foldl_cons]
      exact ih _ (h.next (by omega) (Nat.mod_lt _ (by decide)) (Nat.mod_lt _ (by decide))) (by simp only [hstep, hnext, List.length_append, List.length_singleton]; omega)
  refine key _ _ ⟨⟨rfl, by decide⟩, fun R hR => ?_, fun c hc => by simp at hc, fun c hc => by simp at hc, List.Pairwise.nil⟩ (by simp; omega)
  intro t q h1 h2
  have : R = zeros := by simpa using hR
  subst this
  have : (zeros : List Int).getD t 0 = 0 := by
    match t with
    | 0 | 1 | 2 | 3 | 4 | 5 => rfl
    | t + 6 => rfl
  omega

end Go.Abs
/- Plain laws of chapter 20: CutCausal. -/
set_option linter.unusedSimpArgs false
set_option linter.unusedVariables false
namespace Go.Abs
open Go

structure LGood (l : List Com) : Prop where
  coms : ∀ c ∈ l, CGood l c
  nd : l.Pairwise fun a b => ¬ (a.st = b.st ∧ a.seq = b.seq)

theorem headers_lgood (b : List Nat) : LGood (headers b) := ⟨(headers_good b).coms, (headers_good b).nd⟩

theorem nd_eq : ∀ {l : List Com}, (l.Pairwise fun a b => ¬ (a.st = b.st ∧ a.seq = b.seq)) → ∀ {a b : Com}, a ∈ l → b ∈ l → a.st = b.st → a.seq = b.seq → a = b
  | [], _, a, b, ha, _, _, _ => by simp at ha
  | c :: l, h, a, b, ha, hb, e1, e2 => by
    rw [List.pairwise_cons] at h
    rcases List.mem_cons.1 ha with ha' | ha'
    · rcases List.mem_cons.1 hb with hb' | hb'
      · rw [ha', hb']
      · subst ha'; exact absurd ⟨e1, e2⟩ (h.1 b hb')
    · rcases List.mem_cons.1 hb with hb' | hb'
      · subst hb'; exact absurd ⟨e1.symm, e2.symm⟩ (h.1 a ha')
      · exact nd_eq h.2 ha' hb' e1 e2

theorem sixI {p : List Int} (h : p.length = 6) : ∃ a b c d e f, p = [a, b, c, d, e, f] := by
  match p, h with
  | [a, b, c, d, e, f], _ => exact ⟨a, b, c, d, e, f, rfl⟩

theorem sumW_eq {p : List Int} (h : p.length = 6) (hr : ∀ x ∈ p, 0 ≤ x ∧ x ≤ 12) : sumW p = p.sum := by
  obtain ⟨a, b, c, d, e, f, rfl⟩ := sixI h
  have ha := hr a (by simp); have hb := hr b (by simp); have hc := hr c (by simp)
  have hd := hr d (by simp); have he := hr e (by simp); have hf := hr f (by simp)
  simp only [sumW, List.foldl_cons, List.foldl_nil, addW]
  rw [wrap_i64 (x := 0 + a) (by omega) (by omega), wrap_i64 (x := 0 + a + b) (by omega) (by omega), wrap_i64 (x := 0 + a + b + c) (by omega) (by omega), wrap_i64 (x := 0 + a + b + c + d) (by omega) (by omega),
    wrap_i64 (x := 0 + a + b + c + d + e) (by omega) (by omega), wrap_i64 (x := 0 + a + b + c + d + e + f) (by omega) (by omega)]
  simp only [List.sum_cons, List.sum_nil]
  omega

theorem CGood.valid {l : List Com} {c : Com} (h : CGood l c) : valid c.past = true := by
  simp only [Go.Abs.valid, Bool.and_eq_true, decide_eq_true_eq, List.all_eq_true]
  refine ⟨h.len, fun x hx => ?_⟩
  have := h.row x hx
  simp only [okSeq, Bool.and_eq_true, decide_eq_true_eq]; omega
theorem CGood.st6 {l : List Com} {c : Com} (h : CGood l c) : c.st.toNat < 6 := by have := h.s0; have := h.s3; omega
theorem CGood.pst {l : List Com} {c : Com} (h : CGood l c) : 0 ≤ c.past.getD c.st.toNat 0 ∧ c.past.getD c.st.toNat 0 ≤ 12 := h.row _ (getD_mem (by rw [h.len]; exact h.st6))
theorem CGood.wf {l : List Com} {c : Com} (h : CGood l c) : wf c = true := by
  have h1 := h.pst
  have h2 := h.seq
  have h3 := h.s0
  have h4 := h.s3
  simp only [Go.Abs.wf, Bool.and_eq_true, decide_eq_true_eq]
  exact ⟨⟨⟨⟨⟨h3, by omega⟩, by omega⟩, by omega⟩, h.valid⟩, by omega⟩

theorem own_get {l : List Com} {c : Com} (h : CGood l c) (t : Nat) : (own c).getD t 0 = if t = c.st.toNat then c.seq else c.past.getD t 0 := getD_setI (by rw [h.len]; exact h.st6)

theorem past_le_own {l : List Com} {c : Com} (h : CGood l c) : le c.past (own c) := fun t => by
  rw [own_get h]
  split
  · rename_i e; rw [e]; have := h.seq; omega
  · omega

theorem leq_of_le {a b : List Int} (ha : valid a = true) (hb : valid b = true) (h : le a b) : leq a b = true := by
  obtain ⟨a0, a1, a2, a3, a4, a5, rfl⟩ := sixI (valid_len ha)
  obtain ⟨b0, b1, b2, b3, b4, b5, rfl⟩ := sixI (valid_len hb)
  have h0 : a0 ≤ b0 := h 0
  have h1 : a1 ≤ b1 := h 1
  have h2 : a2 ≤ b2 := h 2
  have h3 : a3 ≤ b3 := h 3
  have h4 : a4 ≤ b4 := h 4
  have h5 : a5 ≤ b5 := h 5
  simp [leq, ha, hb, h0, h1, h2, h3, h4, h5]

theorem sum_lt {l : List Com} {a : Com} (h : CGood l a) {p : List Int} (hp : p.length = 6) (hle : le (own a) p) : a.past.sum < p.sum := by
  have hlt : a.past.getD a.st.toNat 0 < p.getD a.st.toNat 0 := by
    have := hle a.st.toNat
    rw [own_get h, if_pos rfl] at this
    have := h.seq; omega
  have hle2 : le a.past p := fun t => Int.le_trans (past_le_own h t) (hle t)
  obtain ⟨a0, a1, a2, a3, a4, a5, hap⟩ := sixI h.len
  obtain ⟨b0, b1, b2, b3, b4, b5, rfl⟩ := sixI hp
  rw [hap] at hlt hle2 ⊢
  have h0 : a0 ≤ b0 := hle2 0
  have h1 : a1 ≤ b1 := hle2 1
  have h2 : a2 ≤ b2 := hle2 2
  have h3 : a3 ≤ b3 := hle2 3
  have h4 : a4 ≤ b4 := hle2 4
  have h5 : a5 ≤ b5 := hle2 5
  simp only [List.sum_cons, List.sum_nil]
  have hs : a.st.toNat = 0 ∨ a.st.toNat = 1 ∨ a.st.toNat = 2 := by have := h.s0; have := h.s3; omega
  rcases hs with e | e | e <;> rw [e] at hlt
  · have : a0 < b0 := hlt
    omega
  · have : a1 < b1 := hlt
    omega
  · have : a2 < b2 := hlt
    omega

theorem sees_iff {l : List Com} (h : LGood l) {c a : Com} (hc : c ∈ l) (ha : a ∈ l) : sees c a = true ↔ a.seq ≤ c.past.getD a.st.toNat 0 := by
  simp [sees, (h.coms c hc).wf, (h.coms a ha).wf]

theorem sees_le {l : List Com} (h : LGood l) {c a : Com} (hc : c ∈ l) (ha : a ∈ l) (hs : sees c a = true) : le (own a) c.past := by
  rw [sees_iff h hc ha] at hs
  have ga := h.coms a ha
  have h1 := ga.pst
  have h2 := ga.seq
  obtain ⟨d, hd, e1, e2, e3⟩ := (h.coms c hc).clo a.st.toNat a.seq (by omega) hs
  have := nd_eq h.nd hd ha (by rw [e1]; have := ga.s0; omega) e2
  rw [← this]; exact e3

theorem sees_sum {l : List Com} (h : LGood l) {c a : Com} (hc : c ∈ l) (ha : a ∈ l) (hs : sees c a = true) : sumW a.past < sumW c.past := by
  have gc := h.coms c hc
  have ga := h.coms a ha
  rw [sumW_eq gc.len gc.row, sumW_eq ga.len ga.row]
  exact sum_lt ga gc.len (sees_le h hc ha hs)

theorem before_iff {l : List Com} (h : LGood l) {a b : Com} (ha : a ∈ l) (hb : b ∈ l) : befC a b = decide (cmpC a b < 0) := by
  simp [befC, (h.coms a ha).wf, (h.coms b hb).wf]

theorem before_not {l : List Com} (h : LGood l) {a b : Com} (ha : a ∈ l) (hb : b ∈ l) (hne : ¬ (a.st = b.st ∧ a.seq = b.seq)) : befC b a = !befC a b := by
  rw [before_iff h ha hb, before_iff h hb ha, cmpC_lt, cmpC_lt]
  by_cases h1 : sumW a.past = sumW b.past
  · by_cases h2 : a.st = b.st
    · have h3 : a.seq ≠ b.seq := fun e => hne ⟨h2, e⟩
      simp only [h1, h2, decide_true, if_true]
      by_cases h4 : a.seq < b.seq
      · have : ¬ b.seq < a.seq := by omega
        simp [h4, this]
      · have : b.seq < a.seq := by omega
        simp [h4, this]
    · simp only [h1, decide_true, if_true, h2, Ne.symm h2, decide_false, Bool.false_eq_true, if_false]
      by_cases h4 : a.st < b.st
      · have : ¬ b.st < a.st := by omega
        simp [h4, this]
      · have : b.st < a.st := by omega
        simp [h4, this]
  · simp only [h1, Ne.symm h1, decide_false, Bool.false_eq_true, if_false]
    by_cases h4 : sumW a.past < sumW b.past
    · have : ¬ sumW b.past < sumW a.past := by omega
      simp [h4, this]
    · have : sumW b.past < sumW a.past := by omega
      simp [h4, this]

theorem nmFrom_len : ∀ (l : List Com) (m : NMap) (i : Nat), (l.Pairwise fun a b => ¬ (a.st = b.st ∧ a.seq = b.seq)) → (∀ c ∈ l, m.get c.nam = none) → (nmFrom m i l).length = m.length + l.length
  | [], m, i, _, _ => rfl
  | c :: l, m, i, h, hm => by
    rw [List.pairwise_cons] at h
    have h1 := hm c (by simp)
    rw [nmFrom, show nmStep m c i = m ++ [(c.nam, i)] by unfold nmStep; rw [h1]]
    rw [nmFrom_len l _ _ h.2 fun d hd => ?_]
    · simp; omega
    · have h2 := hm d (by simp [hd])
      have h3 := h.1 d hd
      have h4 : d.nam ≠ c.nam := fun e => h3 ⟨(congrArg Nam.st e).symm, (congrArg Nam.seq e).symm⟩
      unfold NMap.get at h2 ⊢
      rw [Option.map_eq_none_iff] at h2 ⊢
      rw [List.find?_append, h2]
      simp [h4]

theorem known_good {l : List Com} (h : LGood l) {p : List Int} (hv : valid p = true) (hp : Clo l p) : ∀ (qs : List Int) (s : Nat), (∀ (j : Nat) (hj : j < qs.length), qs[j] = p.getD (s + j) 0 ∧ 0 ≤ qs[j]) → knownL l p s qs = true
  | [], s, _ => rfl
  | q :: qs, s, hq => by
    rw [knownL, known_good h hv hp qs (s + 1) (fun j hj => by have := hq (j + 1) (by simp; omega); rw [show s + 1 + j = s + (j + 1) by omega]; simpa using this), Bool.and_true]
    have h0 := hq 0 (by simp)
    simp only [List.getElem_cons_zero, Nat.add_zero] at h0
    split
    · rfl
    · rename_i hne
      obtain ⟨c, hc, e1, e2, e3⟩ := hp s q (by omega) (by omega)
      have hN : isN ⟨s, q⟩ c = true := by simp [isN, e1, e2]
      cases hf : l.find? (isN ⟨s, q⟩) with
      | none => rw [List.find?_eq_none] at hf; exact absurd hN (hf c hc)
      | some d =>
        have hd := List.mem_of_find?_eq_some hf
        have hdN := List.find?_some hf
        simp only [isN, Bool.and_eq_true, decide_eq_true_eq] at hdN
        have := nd_eq h.nd hd hc (by rw [hdN.1, e1]) (by rw [hdN.2, e2])
        subst this
        have gd := h.coms d hd
        exact leq_of_le gd.valid hv fun t => Int.le_trans (past_le_own gd t) (e3 t)

theorem consistent_good {l : List Com} (h : LGood l) : consistentP l = true := by
  simp only [consistentP, Bool.and_eq_true, decide_eq_true_eq, List.all_eq_true]
  refine ⟨⟨?_, fun c hc => (h.coms c hc).wf⟩, fun c hc => ?_⟩
  · have := nmFrom_len l [] 0 h.nd fun c _ => rfl
    simpa [nmap] using this
  · have gc := h.coms c hc
    exact known_good h gc.valid gc.clo c.past 0 fun j hj => ⟨by rw [Nat.zero_add, List.getD_eq_getElem?_getD, List.getElem?_eq_getElem hj]; rfl, (gc.row _ (List.getElem_mem hj)).1⟩

end Go.Abs
/- Plain laws of chapter 20: closed cuts, their joins and meets. -/
set_option linter.unusedSimpArgs false
set_option linter.unusedVariables false
namespace Go.Abs
open Go

theorem getD_minL {a b : List Int} (h : a.length = b.length) (t : Nat) : (minL a b).getD t 0 = if b.getD t 0 < a.getD t 0 then b.getD t 0 else a.getD t 0 := by
  simp only [minL, List.getD_eq_getElem?_getD, List.getElem?_zipWith]
  by_cases ht : t < a.length
  · simp [List.getElem?_eq_getElem ht, List.getElem?_eq_getElem (h ▸ ht : t < b.length)]
  · simp [List.getElem?_eq_none (show a.length ≤ t by omega), List.getElem?_eq_none (show b.length ≤ t by omega)]

theorem valid_iff {a : List Int} : valid a = true ↔ a.length = 6 ∧ ∀ t, 0 ≤ a.getD t 0 ∧ a.getD t 0 ≤ 999 := by
  simp only [valid, Bool.and_eq_true, decide_eq_true_eq, List.all_eq_true, okSeq]
  constructor
  · rintro ⟨h1, h2⟩
    refine ⟨h1, fun t => ?_⟩
    by_cases ht : t < a.length
    · exact h2 _ (getD_mem ht)
    · rw [List.getD_eq_getElem?_getD, List.getElem?_eq_none (by omega)]; simp
  · rintro ⟨h1, h2⟩
    refine ⟨h1, fun x hx => ?_⟩
    obtain ⟨i, hi, rfl⟩ := List.getElem_of_mem hx
    have := h2 i
    rwa [List.getD_eq_getElem?_getD, List.getElem?_eq_getElem hi] at this

theorem ext6I {a b : List Int} (ha : a.length = 6) (hb : b.length = 6) (h : ∀ t, a.getD t 0 = b.getD t 0) : a = b := by
  refine List.ext_getElem (by omega) fun i h1 h2 => ?_
  have := h i
  rwa [List.getD_eq_getElem?_getD, List.getD_eq_getElem?_getD, List.getElem?_eq_getElem h1, List.getElem?_eq_getElem h2] at this

theorem len_maxL {a b : List Int} (ha : a.length = 6) (hb : b.length = 6) : (maxL a b).length = 6 := by simp [maxL, ha, hb]
theorem len_minL {a b : List Int} (ha : a.length = 6) (hb : b.length = 6) : (minL a b).length = 6 := by simp [minL, ha, hb]

theorem valid_maxL {a b : List Int} (ha : valid a = true) (hb : valid b = true) : valid (maxL a b) = true := by
  rw [valid_iff] at *
  refine ⟨len_maxL ha.1 hb.1, fun t => ?_⟩
  rw [getD_maxL (by rw [ha.1, hb.1])]
  have := ha.2 t; have := hb.2 t
  split <;> omega
theorem valid_minL {a b : List Int} (ha : valid a = true) (hb : valid b = true) : valid (minL a b) = true := by
  rw [valid_iff] at *
  refine ⟨len_minL ha.1 hb.1, fun t => ?_⟩
  rw [getD_minL (by rw [ha.1, hb.1])]
  have := ha.2 t; have := hb.2 t
  split <;> omega

theorem leq_iff {a b : List Int} (ha : valid a = true) (hb : valid b = true) : leq a b = true ↔ le a b := by
  constructor
  · intro h
    obtain ⟨a0, a1, a2, a3, a4, a5, rfl⟩ := sixI (valid_len ha)
    obtain ⟨b0, b1, b2, b3, b4, b5, rfl⟩ := sixI (valid_len hb)
    simp [leq, ha, hb] at h
    intro t
    match t with
    | 0 => exact h.1
    | 1 => exact h.2.1
    | 2 => exact h.2.2.1
    | 3 => exact h.2.2.2.1
    | 4 => exact h.2.2.2.2.1
    | 5 => exact h.2.2.2.2.2
    | t + 6 => exact Int.le_refl 0
  · exact leq_of_le ha hb
theorem leq_valid {a b : List Int} (h : leq a b = true) : valid a = true ∧ valid b = true := by
  simp only [leq, Bool.and_eq_true] at h; exact h.1

theorem le_maxL1 {a b : List Int} (h : a.length = b.length) : le a (maxL a b) := fun t => by rw [getD_maxL h]; split <;> omega
theorem le_maxL2 {a b : List Int} (h : a.length = b.length) : le b (maxL a b) := fun t => by rw [getD_maxL h]; split <;> omega
theorem minL_le1 {a b : List Int} (h : a.length = b.length) : le (minL a b) a := fun t => by rw [getD_minL h]; split <;> omega
theorem minL_le2 {a b : List Int} (h : a.length = b.length) : le (minL a b) b := fun t => by rw [getD_minL h]; split <;> omega

theorem lead_full {p : Nat → Bool} : ∀ d q, lead p q d = q + d ↔ ∀ j, q < j → j ≤ q + d → p j = true
  | 0, q => ⟨fun _ j h1 h2 => by omega, fun _ => rfl⟩
  | d + 1, q => by
    rw [lead]
    split
    · rename_i h
      rw [show q + (d + 1) = q + 1 + d by omega, lead_full d (q + 1)]
      constructor
      · intro g j h1 h2
        by_cases e : j = q + 1
        · rw [e]; exact h
        · exact g j (by omega) (by omega)
      · intro g j h1 h2
        exact g j (by omega) (by omega)
    · rename_i h
      constructor
      · intro e; omega
      · intro g; exact absurd (g (q + 1) (by omega) (by omega)) h

/-- closed, said by stations and numbers -/
theorem full_all {l : List Com} {c : List Int} (hv : valid c = true) {s : Nat} : full l c s = true ↔ ∀ j : Nat, 0 < j → (j : Int) ≤ c.getD s 0 → okq l c s j = true := by
  have h0 := ((valid_iff.1 hv).2 s).1
  have h1 := lead_full (p := okq l c s) (c.getD s 0).toNat 0
  have h2 : fit l c s ≤ (c.getD s 0).toNat := fit_le
  rw [Nat.zero_add] at h1
  have h3 : full l c s = true ↔ fit l c s = (c.getD s 0).toNat := by
    unfold full
    simp only [Bool.not_eq_true', decide_eq_false_iff_not]
    omega
  rw [h3]
  unfold fit
  rw [h1]
  exact ⟨fun g j a b => g j a (by omega), fun g j a b => g j a (by omega)⟩
theorem closed_all {l : List Com} {c : List Int} (hv : valid c = true) : closed l c = true ↔ ∀ s : Nat, s < 6 → ∀ j : Nat, 0 < j → (j : Int) ≤ c.getD s 0 → okq l c s j = true := by
  unfold closed
  rw [hv, Bool.true_and, List.all_eq_true]
  exact ⟨fun g s hs => (full_all hv).1 (g s (by simpa using hs)), fun g s hs => (full_all hv).2 (g s (by simpa using hs))⟩

theorem okq_mono {l : List Com} {c d : List Int} (hc : valid c = true) (hd : valid d = true) (h : le c d) {s q : Nat} (hk : okq l c s q = true) : okq l d s q = true := by
  unfold okq at hk ⊢
  split at hk
  · simp only [Bool.and_eq_true] at hk ⊢
    refine ⟨hk.1, ?_⟩
    have hx := (leq_valid hk.2).1
    exact leq_of_le hx hd fun t => Int.le_trans ((leq_iff hx hc).1 hk.2 t) (h t)
  · simp at hk
theorem okq_min {l : List Com} {a b : List Int} (ha : valid a = true) (hb : valid b = true) {s q : Nat} (h1 : okq l a s q = true) (h2 : okq l b s q = true) : okq l (minL a b) s q = true := by
  have hl : a.length = b.length := by rw [valid_len ha, valid_len hb]
  unfold okq at *
  split at h1
  · rename_i x e
    rw [e] at h2
    simp only [Bool.and_eq_true] at h1 h2 ⊢
    refine ⟨h1.1, ?_⟩
    have hx := (leq_valid h1.2).1
    refine leq_of_le hx (valid_minL ha hb) fun t => ?_
    have g1 := (leq_iff hx ha).1 h1.2 t
    have g2 := (leq_iff hx hb).1 h2.2 t
    rw [getD_minL hl]
    split <;> omega
  · simp at h1

theorem closed_max {l : List Com} {a b : List Int} (ha : closed l a = true) (hb : closed l b = true) : closed l (maxL a b) = true := by
  have va : valid a = true := by unfold closed at ha; simp only [Bool.and_eq_true] at ha; exact ha.1
  have vb : valid b = true := by unfold closed at hb; simp only [Bool.and_eq_true] at hb; exact hb.1
  have hl : a.length = b.length := by rw [valid_len va, valid_len vb]
  rw [closed_all va] at ha
  rw [closed_all vb] at hb
  rw [closed_all (valid_maxL va vb)]
  intro s hs j h1 h2
  rw [getD_maxL hl] at h2
  split at h2
  · exact okq_mono vb (valid_maxL va vb) (le_maxL2 hl) (hb s hs j h1 h2)
  · exact okq_mono va (valid_maxL va vb) (le_maxL1 hl) (ha s hs j h1 h2)
theorem closed_min {l : List Com} {a b : List Int} (ha : closed l a = true) (hb : closed l b = true) : closed l (minL a b) = true := by
  have va : valid a = true := by unfold closed at ha; simp only [Bool.and_eq_true] at ha; exact ha.1
  have vb : valid b = true := by unfold closed at hb; simp only [Bool.and_eq_true] at hb; exact hb.1
  have hl : a.length = b.length := by rw [valid_len va, valid_len vb]
  rw [closed_all va] at ha
  rw [closed_all vb] at hb
  rw [closed_all (valid_minL va vb)]
  intro s hs j h1 h2
  rw [getD_minL hl] at h2
  split at h2
  · exact okq_min va vb (ha s hs j h1 (by omega)) (hb s hs j h1 (by omega))
  · exact okq_min va vb (ha s hs j h1 (by omega)) (hb s hs j h1 (by omega))

theorem gre_closed {l : List Com} : ∀ n (c : List Int), valid c = true → total c < n → closed l (gre l n c) = true ∧ valid (gre l n c) = true
  | 0, _, _, h => by omega
  | n + 1, c, hv, hn => by
    rw [gre]
    split
    · rename_i h; exact ⟨h, hv⟩
    · rename_i h
      have := pass_less hv (by simpa using h)
      exact gre_closed n _ (pass_valid 6 0 c rfl hv) (by omega)
theorem cutOfL_closed (l : List Com) (b : List Nat) : closed l (cutOfL l b) = true ∧ valid (cutOfL l b) = true := by
  unfold cutOfL
  split
  · exact gre_closed _ _ valid_all (total_le valid_all)
  · exact gre_closed _ _ (valid_limit b) (total_le (valid_limit b))

theorem firstS_none {l : List Com} {c : List Int} (h : ∀ s, s < 6 → full l c s = true) : ∀ d s, s + d = 6 → firstS l c s d = none
  | 0, s, _ => rfl
  | d + 1, s, hd => by rw [firstS, if_pos (h s (by omega)), firstS_none h d (s + 1) (by omega)]
theorem closedP_of {l : List Com} {c : List Int} (h : closed l c = true) : closedP l c = true := by
  unfold closed at h
  simp only [Bool.and_eq_true, List.all_eq_true] at h
  simp only [closedP, h.1, Bool.true_and, decide_eq_true_eq]
  rw [show (6000 : Nat) = 5999 + 1 from rfl, reachF, firstS_none (fun s hs => h.2 s (by simpa using hs)) 6 0 rfl]

/-- the laws of a lattice -/
structure Latt (a b c : List Int) : Prop where
  comm1 : maxL b a = maxL a b
  comm2 : minL b a = minL a b
  ass1 : maxL (maxL a b) c = maxL a (maxL b c)
  ass2 : minL (minL a b) c = minL a (minL b c)
  id1 : maxL a a = a
  id2 : minL a a = a
  abs1 : maxL a (minL a b) = a
  abs2 : minL a (maxL a b) = a
  leq1 : leq a b = decide (maxL a b = b)
  leq2 : leq a b = decide (minL a b = a)
  mm : leq (minL a b) (maxL a b) = true

theorem latt {a b c : List Int} (ha : valid a = true) (hb : valid b = true) (hc : valid c = true) : Latt a b c := by
  have la := valid_len ha
  have lb := valid_len hb
  have lc := valid_len hc
  have g1 : ∀ {x y : List Int}, x.length = 6 → y.length = 6 → ∀ t, (maxL x y).getD t 0 = if x.getD t 0 < y.getD t 0 then y.getD t 0 else x.getD t 0 := fun hx hy t => getD_maxL (by rw [hx, hy]) t
  have g2 : ∀ {x y : List Int}, x.length = 6 → y.length = 6 → ∀ t, (minL x y).getD t 0 = if y.getD t 0 < x.getD t 0 then y.getD t 0 else x.getD t 0 := fun hx hy t => getD_minL (by rw [hx, hy]) t
  have m1 : ∀ {x y : List Int}, x.length = 6 → y.length = 6 → (maxL x y).length = 6 := fun hx hy => len_maxL hx hy
  have m2 : ∀ {x y : List Int}, x.length = 6 → y.length = 6 → (minL x y).length = 6 := fun hx hy => len_minL hx hy
  have iff : ∀ {p : Prop} [Decidable p] {x : Bool}, (x = true ↔ p) → x = decide p := fun {p} _ {x} h => by
    cases x
    · exact (decide_eq_false fun hp => by simpa using h.2 hp).symm
    · exact (decide_eq_true (h.1 rfl)).symm
  refine ⟨ext6I (m1 lb la) (m1 la lb) fun t => ?_, ext6I (m2 lb la) (m2 la lb) fun t => ?_, ext6I (m1 (m1 la lb) lc) (m1 la (m1 lb lc)) fun t => ?_, ext6I (m2 (m2 la lb) lc) (m2 la (m2 lb lc)) fun t => ?_,
    ext6I (m1 la la) la fun t => ?_, ext6I (m2 la la) la fun t => ?_, ext6I (m1 la (m2 la lb)) la fun t => ?_, ext6I (m2 la (m1 la lb)) la fun t => ?_, iff ?_, iff ?_, ?_⟩
  · rw [g1 lb la, g1 la lb]; split <;> split <;> omega
  · rw [g2 lb la, g2 la lb]; split <;> split <;> omega
  · rw [g1 (m1 la lb) lc, g1 la (m1 lb lc), g1 la lb, g1 lb lc]; generalize a.getD t 0 = x; generalize b.getD t 0 = y; generalize c.getD t 0 = z; omega
  · rw [g2 (m2 la lb) lc, g2 la (m2 lb lc), g2 la lb, g2 lb lc]; generalize a.getD t 0 = x; generalize b.getD t 0 = y; generalize c.getD t 0 = z; omega
  · rw [g1 la la]; split <;> omega
  · rw [g2 la la]; split <;> omega
  · rw [g1 la (m2 la lb), g2 la lb]; split <;> split <;> omega
  · rw [g2 la (m1 la lb), g1 la lb]; split <;> split <;> omega
  · rw [leq_iff ha hb]
    constructor
    · intro h
      refine ext6I (m1 la lb) lb fun t => ?_
      have := h t
      rw [g1 la lb]; split <;> omega
    · intro h t
      have := g1 la lb t
      rw [h] at this
      split at this <;> omega
  · rw [leq_iff ha hb]
    constructor
    · intro h
      refine ext6I (m2 la lb) la fun t => ?_
      have := h t
      rw [g2 la lb]; split <;> omega
    · intro h t
      have := g2 la lb t
      rw [h] at this
      split at this <;> omega
  · refine leq_of_le (valid_minL ha hb) (valid_maxL ha hb) fun t => ?_
    rw [g2 la lb, g1 la lb]; split <;> split <;> omega

end Go.Abs
/- Closure: what it computes. -/
set_option linter.unusedSimpArgs false
set_option linter.unusedVariables false
set_option maxRecDepth 100000
set_option maxHeartbeats 4000000
namespace Go.Abs
open Go

theorem own_clo {l : List Com} {e : Com} (h : CGood l e) (he : e ∈ l) : Clo l (own e) := by
  intro t q h1 h2
  rw [own_get h] at h2
  have hs := h.seq
  have h0 := h.s0
  by_cases ht : t = e.st.toNat
  · rw [if_pos ht] at h2
    by_cases hq : q = e.seq
    · exact ⟨e, he, by omega, hq.symm, fun _ => Int.le_refl _⟩
    · obtain ⟨c, hc, e1, e2, e3⟩ := h.clo t q h1 (by rw [ht]; omega)
      exact ⟨c, hc, e1, e2, fun u => Int.le_trans (e3 u) (past_le_own h u)⟩
  · rw [if_neg ht] at h2
    obtain ⟨c, hc, e1, e2, e3⟩ := h.clo t q h1 h2
    exact ⟨c, hc, e1, e2, fun u => Int.le_trans (e3 u) (past_le_own h u)⟩

theorem isN_iff {n : Nam} {c : Com} : isN n c = true ↔ c.st = n.st ∧ c.seq = n.seq := by simp [isN]
theorem find_self {l : List Com} (hl : LGood l) {e : Com} (he : e ∈ l) : l.find? (isN e.nam) = some e := by
  cases h : l.find? (isN e.nam) with
  | none =>
    rw [List.find?_eq_none] at h
    exact absurd (by simp [isN, Com.nam]) (h e he)
  | some x =>
    have hx := List.find?_some h
    rw [isN_iff] at hx
    rw [nd_eq hl.nd (List.mem_of_find?_eq_some h) he hx.1 hx.2]

theorem nmap_self {l : List Com} (hl : LGood l) {i : Nat} (hi : i < l.length) : (nmap l).get l[i].nam = some i := by
  rcases nmap_cases l l[i].nam with ⟨_, h⟩ | ⟨j, hj, h1, h2⟩
  · rw [find_self hl (List.getElem_mem hi)] at h; simp at h
  · rw [find_self hl (List.getElem_mem hi)] at h2
    have e := Option.some.inj h2
    rw [h1]
    by_cases hij : i = j
    · rw [hij]
    · exfalso
      have hp := List.pairwise_iff_getElem.1 hl.nd
      rcases Nat.lt_or_gt_of_ne hij with hlt | hlt
      · exact hp i j hi hj hlt ⟨by rw [e], by rw [e]⟩
      · exact hp j i hj hi hlt ⟨by rw [e], by rw [e]⟩

def ownOf (l : List Com) (n : Nam) : List Int := match l.find? (isN n) with
  | some e => own e
  | none => zeros
def cloF (l : List Com) (ns : List Nam) : List Int := ns.foldl (fun c n => maxL c (ownOf l n)) zeros
def Mem (l : List Com) (n : Nam) : Prop := ∃ e ∈ l, e.nam = n

theorem zeros_valid : valid zeros = true := by decide
structure CloOk (l : List Com) (ns : List Nam) (c : List Int) : Prop where
  v : valid c = true
  has : ∀ n ∈ ns, le (ownOf l n) c
  least : ∀ d, valid d = true → (∀ n ∈ ns, le (ownOf l n) d) → le c d
theorem le_anti {a b : List Int} (ha : valid a = true) (hb : valid b = true) (h1 : le a b) (h2 : le b a) : a = b := ext6I (valid_len ha) (valid_len hb) fun t => by have := h1 t; have := h2 t; omega

/-- in a good list, what is closed by its commits is closed -/
theorem closed_of_clo {l : List Com} (hl : LGood l) {c : List Int} (hv : valid c = true) (h : Clo l c) : closed l c = true := by
  rw [closed_all hv]
  intro s hs j h1 h2
  obtain ⟨e, he, e1, e2, e3⟩ := h s j (by omega) h2
  have hn : (⟨(s : Int), (j : Int)⟩ : Nam) = e.nam := by unfold Com.nam; rw [e1, e2]
  unfold okq
  rw [hn, find_self hl he]
  have ge := hl.coms e he
  simp only [ge.wf, Bool.true_and]
  exact leq_of_le ge.valid hv fun t => Int.le_trans (past_le_own ge t) (e3 t)
theorem clo_of_closed {l : List Com} (hl : LGood l) {c : List Int} (hv : valid c = true) (h : closed l c = true) : Clo l c := by
  intro t q h1 h2
  have ht : t < 6 := by
    by_cases ht : t < 6
    · exact ht
    · have : c.getD t 0 = 0 := by rw [List.getD_eq_getElem?_getD, List.getElem?_eq_none (by rw [valid_len hv]; omega)]; rfl
      omega
  have hk := (closed_all hv).1 h t ht q.toNat (by omega) (by omega)
  have hq : ((q.toNat : Nat) : Int) = q := by omega
  unfold okq at hk
  rw [hq] at hk
  split at hk
  · rename_i e he
    have hx := List.find?_some he
    have hm := List.mem_of_find?_eq_some he
    rw [isN_iff] at hx
    simp only [Bool.and_eq_true] at hk
    have ge := hl.coms e hm
    refine ⟨e, hm, hx.1, hx.2, fun u => ?_⟩
    rw [own_get ge]
    split
    · rename_i hu
      have : u = t := by have h3 : e.st = (t : Int) := hx.1; omega
      rw [this, hx.2]; exact h2
    · exact (leq_iff ge.valid hv).1 hk.2 u
  · simp at hk

theorem has_iff {l : List Com} (hl : LGood l) {c : List Int} (hv : valid c = true) {e : Com} (he : e ∈ l) : has c e.nam = true ↔ e.seq ≤ c.getD e.st.toNat 0 := by
  have ge := hl.coms e he
  have h0 := ge.s0
  have h1 := ge.s3
  have h2 := ge.seq
  have h3 := ge.pst
  have : has c e.nam = true ↔ ((0 ≤ e.st ∧ e.st < 6) ∧ 1 ≤ e.seq) ∧ e.seq ≤ c.getD e.st.toNat 0 := by
    simp only [has, hv, Bool.true_and, Bool.and_eq_true, decide_eq_true_eq]
    exact Iff.rfl
  rw [this]
  exact ⟨fun h => h.2, fun h => ⟨⟨⟨h0, by omega⟩, by omega⟩, h⟩⟩
theorem has_own {l : List Com} (hl : LGood l) {c : List Int} (hv : valid c = true) (hc : Clo l c) {e : Com} (he : e ∈ l) : has c e.nam = true ↔ le (own e) c := by
  rw [has_iff hl hv he]
  have ge := hl.coms e he
  have h2 := ge.seq
  have h3 := ge.pst
  constructor
  · intro h
    obtain ⟨x, hx, e1, e2, e3⟩ := hc e.st.toNat e.seq (by omega) h
    have : x = e := nd_eq hl.nd hx he (by have := ge.s0; omega) e2
    rw [← this]; exact e3
  · intro h
    have := h e.st.toNat
    rw [own_get ge, if_pos rfl] at this
    exact this

/-- the plain law of CutClosures -/
structure Closures (l : List Com) (m n : List Nam) (c : List Int) : Prop where
  va : valid (cloF l m) = true
  vb : valid (cloF l n) = true
  cl : closedP l (cloF l m) = true
  both : maxL (cloF l m) (cloF l n) = cloF l (m ++ n)
  has : ∀ x ∈ m, has (cloF l m) x = true
  leq : leq (cloF l m) c = m.all (Go.Abs.has c)
  all : cloF l ((l.filter fun e => Go.Abs.has c e.nam).map Com.nam) = c

end Go.Abs
/- Plain laws of chapter 20: the greatest closed cut. -/
set_option linter.unusedSimpArgs false
set_option linter.unusedVariables false
set_option maxRecDepth 100000
namespace Go.Abs
open Go

theorem firstS_some {l : List Com} {c : List Int} {s : Nat} : ∀ d i, firstS l c i d = some s → i ≤ s ∧ s < i + d ∧ full l c s = false
  | 0, i, h => by simp [firstS] at h
  | d + 1, i, h => by
    unfold firstS at h
    split at h
    · have h2 := firstS_some d (i + 1) h
      exact ⟨by omega, by omega, h2.2.2⟩
    · rename_i hf
      obtain rfl : i = s := Option.some.inj h
      exact ⟨by omega, by omega, by simpa using hf⟩
theorem firstS_all {l : List Com} {c : List Int} : ∀ d i, firstS l c i d = none → ∀ s, i ≤ s → s < i + d → full l c s = true
  | 0, i, _, s, h1, h2 => by omega
  | d + 1, i, h, s, h1, h2 => by
    unfold firstS at h
    split at h
    · rename_i hf
      by_cases e : s = i
      · rw [e]; exact hf
      · exact firstS_all d (i + 1) h s (by omega) (by omega)
    · simp at h

theorem lead_at_least {p : Nat → Bool} : ∀ d q k, (∀ j, q < j → j ≤ k → p j = true) → q ≤ k → k ≤ q + d → k ≤ lead p q d
  | 0, q, k, _, h1, h2 => by unfold lead; omega
  | d + 1, q, k, h, h1, h2 => by
    unfold lead
    by_cases e : k = q
    · split
      · have := lead_ge p d (q + 1); omega
      · omega
    · rw [if_pos (h (q + 1) (by omega) (by omega))]
      exact lead_at_least d (q + 1) k (fun j h3 h4 => h j (by omega) h4) (by omega) (by omega)

theorem fit_ge {l : List Com} {c d : List Int} (vc : valid c = true) (vd : valid d = true) (hd : closed l d = true) (h : le d c) {s : Nat} (hs : s < 6) : d.getD s 0 ≤ ((fit l c s : Nat) : Int) := by
  have h1 := h s
  have h2 := (valid_iff.1 vd).2 s
  have h3 := (valid_iff.1 vc).2 s
  have := lead_at_least (p := okq l c s) (c.getD s 0).toNat 0 (d.getD s 0).toNat (fun j g1 g2 => okq_mono vd vc h ((closed_all vd).1 hd s hs j g1 (by omega))) (by omega) (by omega)
  unfold fit
  omega

theorem full_fit {l : List Com} {c : List Int} {s : Nat} (h : full l c s = false) : ((fit l c s : Nat) : Int) < c.getD s 0 := by
  unfold full at h
  simpa using h

theorem reachF_step {l : List Com} {c : List Int} (vc : valid c = true) {s : Nat} (hs : s < 6) (hf : full l c s = false) : valid (c.set s (fit l c s : Nat)) = true ∧ total (c.set s (fit l c s : Nat)) < total c ∧ le (c.set s (fit l c s : Nat)) c := by
  have h6 := valid_len vc
  have hlt := full_fit hf
  have h3 := total_set (o := c) (i := s) (v := fit l c s) (by omega)
  refine ⟨valid_set vc (by omega) (fit_small vc hs), by omega, fun t => ?_⟩
  rw [getD_setI (by omega)]
  split
  · rename_i e; rw [e]; omega
  · omega

theorem reachF_closed {l : List Com} : ∀ n (c : List Int), valid c = true → total c < n → closed l (reachF l n c) = true ∧ le (reachF l n c) c
  | 0, c, _, h => by omega
  | n + 1, c, hv, hn => by
    unfold reachF
    split
    · rename_i h
      have := firstS_all 6 0 h
      refine ⟨?_, fun _ => Int.le_refl _⟩
      unfold closed
      rw [hv, Bool.true_and, List.all_eq_true]
      intro s hs
      exact this s (Nat.zero_le _) (by simpa using hs)
    · rename_i s h
      obtain ⟨_, h2, h3⟩ := firstS_some 6 0 h
      obtain ⟨v', t', l'⟩ := reachF_step hv (by omega) h3
      obtain ⟨g1, g2⟩ := reachF_closed n _ v' (by omega)
      exact ⟨g1, fun t => Int.le_trans (g2 t) (l' t)⟩

theorem reachF_great {l : List Com} {d : List Int} (vd : valid d = true) (hd : closed l d = true) : ∀ n (c : List Int), valid c = true → le d c → le d (reachF l n c)
  | 0, c, _, h => h
  | n + 1, c, hv, h => by
    unfold reachF
    split
    · exact h
    · rename_i s hs
      obtain ⟨_, h2, h3⟩ := firstS_some 6 0 hs
      obtain ⟨v', _, _⟩ := reachF_step hv (show s < 6 by omega) h3
      refine reachF_great vd hd n _ v' fun t => ?_
      rw [getD_setI (by rw [valid_len hv]; omega)]
      split
      · rename_i e; rw [e]; exact fit_ge hv vd hd h (by omega)
      · exact h t

/-- the greatest closed cut within a limit -/
structure Gre (l : List Com) (c g : List Int) : Prop where
  v : valid g = true
  cl : closed l g = true
  lo : le g c
  gr : ∀ d, valid d = true → closed l d = true → le d c → le d g
theorem reachF_gre {l : List Com} {c : List Int} (hv : valid c = true) : Gre l c (reachF l 6000 c) :=
  ⟨reachF_valid _ _ hv, (reachF_closed _ _ hv (total_le hv)).1, (reachF_closed _ _ hv (total_le hv)).2, fun d vd hd h => reachF_great vd hd _ _ hv h⟩

/-! ### Lists with the same commits -/
theorem okq_congr {l l' : List Com} (h : ∀ n, l'.find? (isN n) = l.find? (isN n)) (c : List Int) (s q : Nat) : okq l' c s q = okq l c s q := by unfold okq; rw [h]
theorem lead_congr {p q : Nat → Bool} (h : ∀ j, p j = q j) : ∀ d k, lead p k d = lead q k d
  | 0, _ => rfl
  | d + 1, k => by unfold lead; rw [h, lead_congr h d]
theorem fit_congr {l l' : List Com} (h : ∀ n, l'.find? (isN n) = l.find? (isN n)) (c : List Int) (s : Nat) : fit l' c s = fit l c s := lead_congr (fun j => okq_congr h c s j) _ _
theorem full_congr {l l' : List Com} (h : ∀ n, l'.find? (isN n) = l.find? (isN n)) (c : List Int) (s : Nat) : full l' c s = full l c s := by unfold full; rw [fit_congr h]
theorem firstS_congr {l l' : List Com} (h : ∀ n, l'.find? (isN n) = l.find? (isN n)) (c : List Int) : ∀ d i, firstS l' c i d = firstS l c i d
  | 0, _ => rfl
  | d + 1, i => by unfold firstS; rw [full_congr h, firstS_congr h c d]
theorem reachF_congr {l l' : List Com} (h : ∀ n, l'.find? (isN n) = l.find? (isN n)) : ∀ n (c : List Int), reachF l' n c = reachF l n c
  | 0, _ => rfl
  | n + 1, c => by
    unfold reachF
    rw [firstS_congr h]
    split
    · rfl
    · rw [fit_congr h, reachF_congr h n]
theorem closed_congr {l l' : List Com} (h : ∀ n, l'.find? (isN n) = l.find? (isN n)) (c : List Int) : closed l' c = closed l c := by
  unfold closed
  congr 2
  funext s
  exact full_congr h c s
theorem find_same {l l' : List Com} (hl : LGood l) (h : ∀ c, c ∈ l' ↔ c ∈ l) (n : Nam) : l'.find? (isN n) = l.find? (isN n) := by
  cases h1 : l'.find? (isN n) with
  | none =>
    rw [List.find?_eq_none] at h1
    exact (List.find?_eq_none.2 fun c hc => h1 c ((h c).2 hc)).symm
  | some x =>
    have hx := List.find?_some h1
    have hm := (h x).1 (List.mem_of_find?_eq_some h1)
    cases h2 : l.find? (isN n) with
    | none => rw [List.find?_eq_none] at h2; exact absurd hx (h2 x hm)
    | some y =>
      have hy := List.find?_some h2
      rw [isN_iff] at hx hy
      rw [nd_eq hl.nd hm (List.mem_of_find?_eq_some h2) (hx.1.trans hy.1.symm) (hx.2.trans hy.2.symm)]
theorem find_take {l : List Com} {k : Nat} {n : Nam} {x : Com} (h : (l.take k).find? (isN n) = some x) : l.find? (isN n) = some x := by
  rw [← List.take_append_drop k l, List.find?_append, h]; rfl
theorem closed_take {l : List Com} {k : Nat} {c : List Int} (hv : valid c = true) (h : closed (l.take k) c = true) : closed l c = true := by
  rw [closed_all hv] at h ⊢
  intro s hs j h1 h2
  have := h s hs j h1 h2
  unfold okq at this ⊢
  split at this
  · rename_i x hx
    rw [find_take hx]; exact this
  · simp at this

/-! ### Shuffled lists -/
def shuf (b : List Nat) : Nat → List Com → List Com → List Com
  | _, [], out => out
  | i, x :: xs, out => shuf b (i + 1) xs (out.take (b.getD i 0 % (i + 1)) ++ x :: out.drop (b.getD i 0 % (i + 1)))
def shuffled (l : List Com) (b : List Nat) : List Com := shuf b 0 l [] ++ (shuf b 0 l []).take ((shuf b 0 l []).length / 3)
theorem shuf_mem {b : List Nat} {c : Com} : ∀ (xs : List Com) (i : Nat) (out : List Com), c ∈ shuf b i xs out ↔ c ∈ xs ∨ c ∈ out
  | [], i, out => by simp [shuf]
  | x :: xs, i, out => by
    rw [shuf, shuf_mem xs]
    have : c ∈ out ↔ c ∈ out.take (b.getD i 0 % (i + 1)) ∨ c ∈ out.drop (b.getD i 0 % (i + 1)) := by rw [← List.mem_append, List.take_append_drop]
    rw [this]
    simp only [List.mem_append, List.mem_cons]
    constructor
    · rintro (h | h | h | h)
      · exact .inl (.inr h)
      · exact .inr (.inl h)
      · exact .inl (.inl h)
      · exact .inr (.inr h)
    · rintro ((h | h) | h | h)
      · exact .inr (.inr (.inl h))
      · exact .inl h
      · exact .inr (.inl h)
      · exact .inr (.inr (.inr h))
theorem shuf_len {b : List Nat} : ∀ (xs : List Com) (i : Nat) (out : List Com), (shuf b i xs out).length = xs.length + out.length
  | [], i, out => by simp [shuf]
  | x :: xs, i, out => by
    rw [shuf, shuf_len xs]
    have : (out.take (b.getD i 0 % (i + 1))).length + (out.drop (b.getD i 0 % (i + 1))).length = out.length := by rw [← List.length_append, List.take_append_drop]
    simp only [List.length_append, List.length_cons]
    omega
theorem shuffled_mem {l : List Com} {b : List Nat} (c : Com) : c ∈ shuffled l b ↔ c ∈ l := by
  unfold shuffled
  rw [List.mem_append]
  have h := shuf_mem (b := b) (c := c) l 0 []
  constructor
  · rintro (h1 | h1)
    · simpa using h.1 h1
    · simpa using h.1 (List.mem_of_mem_take h1)
  · intro h1; exact .inl (h.2 (.inl h1))

/-! ### The number of commits -/
def diag (K : List (List Int)) (a : Nat) : Int := (K.getD a []).getD a 0
theorem HGood.dom {x : HS} (h : HGood x) : ∀ R ∈ x.K, ∀ a : Nat, a < 3 → R.getD a 0 ≤ diag x.K a := by
  intro R hR a ha
  unfold diag
  rcases Int.lt_or_le (R.getD a 0) 1 with h1 | h1
  · obtain ⟨k4, g4, r4⟩ := h.inv.get ha
    have : 0 ≤ (x.K.getD a []).getD a 0 := by
      rw [g4]; exact (r4.2 _ (getD_mem (by omega))).1
    omega
  · obtain ⟨c, hc, e1, e2, _⟩ := h.clo R hR a _ h1 (Int.le_refl _)
    have := h.top c hc
    rw [e1, e2] at this
    simpa using this

theorem diag_join {x : HS} (h : HGood x) {s t u : Nat} (hs : s < 3) (ht : t < 3) {a : Nat} (ha : a < 3) : diag (hjoin x.K s t u) a = diag x.K a := by
  unfold hjoin
  split
  · obtain ⟨k1, g1, r1⟩ := h.inv.get hs
    obtain ⟨k2, g2, r2⟩ := h.inv.get ht
    unfold diag
    rw [getD_setL k1]
    split
    · rename_i e
      subst e
      rw [g1, g2, getD_maxL (by rw [r1.1, r2.1])]
      have := h.dom _ (List.getElem_mem k2) a ha
      unfold diag at this
      rw [g1] at this
      rw [if_neg (by omega)]
    · rfl
  · rfl

theorem diag_next {x : HS} (h : HGood x) {s t u : Nat} (hs : s < 3) (ht : t < 3) {a : Nat} (ha : a < 3) : diag (hnext x s t u).K a = if a = s then diag x.K a + 1 else diag x.K a := by
  have hI := h.inv.join (u := u) hs ht
  obtain ⟨k3, g3, r3⟩ := hI.get hs
  have hd := diag_join h (u := u) hs ht ha
  unfold hnext
  show diag ((hjoin x.K s t u).set s (own (hcom (hjoin x.K s t u) s))) a = _
  rw [← hd]
  unfold diag
  rw [getD_setL k3]
  by_cases e : a = s
  · rw [if_pos e, if_pos e]
    subst e
    show (((hjoin x.K a t u).getD a []).set ((a : Int).toNat) _).getD a 0 = _
    rw [Int.toNat_natCast, getD_setI (by rw [g3]; omega), if_pos rfl]
    rfl
  · rw [if_neg e, if_neg e]

def Cnt (x : HS) : Prop := diag x.K 0 + diag x.K 1 + diag x.K 2 = (x.out.length : Int)
theorem cnt_next {x : HS} (h : HGood x) (hc : Cnt x) {s t u : Nat} (hs : s < 3) (ht : t < 3) : Cnt (hnext x s t u) := by
  unfold Cnt at hc ⊢
  rw [diag_next h hs ht (by omega), diag_next h hs ht (by omega), diag_next h hs ht (by omega)]
  have : (hnext x s t u).out.length = x.out.length + 1 := by simp [hnext]
  rw [this]
  match s, hs with
  | 0, _ => simp; omega
  | 1, _ => simp; omega
  | 2, _ => simp; omega

theorem cnt_fold : ∀ (b : List Nat) (x : HS), HGood x → Cnt x → x.out.length + b.length ≤ 12 → Cnt (b.foldl hstep x) ∧ HGood (b.foldl hstep x)
  | [], x, h, hc, _ => ⟨hc, h⟩
  | n :: b, x, h, hc, hl => by
    rw [List.foldl_cons]
    have h1 : n % 3 < 3 := Nat.mod_lt _ (by omega)
    have h2 : n / 3 % 3 < 3 := Nat.mod_lt _ (by omega)
    have hg := h.next (u := n / 9 % 3) (by simp only [List.length_cons] at hl; omega) h1 h2
    exact cnt_fold b _ hg (cnt_next h hc h1 h2) (by show (hnext x _ _ _).out.length + _ ≤ _; simp only [hnext, List.length_append, List.length_cons, List.length_nil] at hl ⊢; omega)

end Go.Abs
/- The walk of Shuffled; the greatest closed cut of all commits. -/
set_option linter.unusedSimpArgs false
set_option linter.unusedVariables false
set_option maxRecDepth 100000
set_option maxHeartbeats 4000000
namespace Go.Abs
open Go

theorem set6 {x y z : AObj} {ρ : Sto} : (ρ ++ [x] ++ [y]).set ρ.length z = ρ ++ [z] ++ [y] := by simp

end Go.Abs
