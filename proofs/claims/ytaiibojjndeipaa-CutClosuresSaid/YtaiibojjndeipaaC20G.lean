/- Walks of chapter 20: the reference's closed cuts. -/
import Derived.Test.YtaiibojjndeipaaC20D
set_option linter.all false
set_option linter.unusedSimpArgs false
set_option linter.unusedVariables false
namespace Go.Abs
open Go

abbrev bytesV (f : SlF) (b : List Nat) : AVal := sv 1 f (b.map fun n => .int .u8 ((n : Nat) : Int))
abbrev zeros : List Int := [0, 0, 0, 0, 0, 0]

theorem r20_Zero_shared {σ : Sto} {R : Post} : Cw T false i_r20_Zero [] [] σ R ↔ R (.ref σ.length 6 0 6 1) (σ ++ [.cells false (zeros.map fun n => .int .i64 n)]) := by
  rw [cw_enter T_r20_Zero (by simp), run_unfold r20_Zero.main.eq_1]
  simp (maxSteps := 2000000) only [go_sem, ↓reduceIte, Nat.reduceLT, Nat.reduceEqDiff, Nat.reduceLeDiff, Nat.reduceAdd, Nat.reduceSub, Nat.reduceMul, Int.reduceLT, Int.reduceLE, Int.reduceEq, Int.reduceNeg]
  rw [show mksliceV 1 8 [AVal.int IntKind.i64 0] (AVal.int IntKind.i64 6) (AVal.int IntKind.i64 6) σ = some (.ref σ.length 6 0 6 1, σ ++ [.cells false (zeros.map fun n => .int .i64 n)]) from rfl]
  simp (maxSteps := 2000000) only [go_sem, ↓reduceIte, Nat.reduceLT, Nat.reduceEqDiff, Nat.reduceLeDiff, Nat.reduceAdd, Nat.reduceSub, Nat.reduceMul, Int.reduceLT, Int.reduceLE, Int.reduceEq, Int.reduceNeg]
@[go_sem] theorem r20_Zero_call' {Q : Post3} {k : List Item} {os : List AOper} {d : Option Nat} {e : Env} {σ : Sto} : CallK T Q k os d e σ false i_r20_Zero [] ↔ Run T Q (.ops os :: k) (put e d (.ref σ.length 6 0 6 1)) (σ ++ [.cells false (zeros.map fun n => .int .i64 n)]) := callK_shared r20_Zero_shared

theorem r20_All_loop : ∀ i, i ≤ 6 → ∀ o : List Int, o.length = i →
    Run T (Res [.tmp 0] (ints .lst (o ++ List.replicate (6 - i) 999))) (.inLoop r20_All.b0 :: r20_All.k0) (mkE 12 [(1, .ref 0 o.length 0 o.length 1), (2, .int .i64 i)]) [.cells false (o.map fun n => .int .i64 n)] := by
  refine up_ind ?_ fun i hi ih o ho => ?_
  · intro o ho
    rw [run_round, run_unfold r20_All.b0.eq_1]
    simp (maxSteps := 2000000) only [go_sem, ↓reduceIte, Nat.reduceLT, Nat.reduceEqDiff, Nat.reduceLeDiff, Nat.reduceAdd, Nat.reduceSub, Nat.reduceMul, Int.reduceLT, Int.reduceLE, Int.reduceEq, Int.reduceNeg, run_unfold r20_All.c0.eq_1, r20_All.k0, show (List.replicate (6 - 6) (999 : Int)) = [] from rfl]
    rw [snap_ints (by rfl)]
  · rw [run_round, run_unfold r20_All.b0.eq_1]
    simp (maxSteps := 2000000) only [go_sem, ↓reduceIte, Nat.reduceLT, Nat.reduceEqDiff, Nat.reduceLeDiff, Nat.reduceAdd, Nat.reduceSub, Nat.reduceMul, Int.reduceLT, Int.reduceLE, Int.reduceEq, Int.reduceNeg, show ((i : Int) < 6) by omega]
    rw [appendV_push (by rfl) (by rfl) (by simp) rfl (by unfold maxBytes; omega)]
    simp (maxSteps := 2000000) only [go_sem, ↓reduceIte, Nat.reduceLT, Nat.reduceEqDiff, Nat.reduceLeDiff, Nat.reduceAdd, Nat.reduceSub, Nat.reduceMul, Int.reduceLT, Int.reduceLE, Int.reduceEq, Int.reduceNeg, wrap_succ (show i < 9223372036854775807 by omega)]
    have := ih (o ++ [999]) (by simp [ho])
    rw [show 6 - i = (6 - (i + 1)) + 1 by omega, List.replicate_succ]
    simpa using this

theorem r20_All_spec  {lv : List Nat} {σ : Sto} {R : Post} : Cw T true i_r20_All [] lv σ R ↔ R (ints .lst [999, 999, 999, 999, 999, 999]) σ := by
  refine cw_intro T_r20_All (by simp only [go_sem]) (by simp) ?_; rw [run_unfold r20_All.main.eq_1]
  simp (maxSteps := 2000000) only [go_sem, ↓reduceIte, Nat.reduceLT, Nat.reduceEqDiff, Nat.reduceLeDiff, Nat.reduceAdd, Nat.reduceSub, Nat.reduceMul, Int.reduceLT, Int.reduceLE, Int.reduceEq, Int.reduceNeg]
  exact r20_All_loop 0 (by omega) [] rfl
@[go_sem] theorem r20_All_call  {Q : Post3} {k : List Item} {os : List AOper} {d : Option Nat} {e : Env} {σ : Sto} : CallK T Q k os d e σ true i_r20_All [] ↔ Run T Q (.ops os :: k) (put e d (ints .lst [999, 999, 999, 999, 999, 999])) σ := r20_All_spec


def own (c : Com) : List Int := c.past.set c.st.toNat c.seq

theorem r20_Own_spec {c : Com} (h1 : 0 ≤ c.st) (h2 : c.st.toNat < c.past.length) (h3 : c.past.length * 8 ≤ maxBytes) {lv : List Nat} {σ : Sto} {R : Post} : Cw T true i_r20_Own [encC c] lv σ R ↔ R (ints .lst (own c)) σ := by
  refine cw_intro T_r20_Own (by simp only [go_sem]) (by simp) ?_; rw [run_unfold r20_Own.main.eq_1]
  simp (maxSteps := 2000000) only [go_sem, ↓reduceIte, Nat.reduceLT, Nat.reduceEqDiff, Nat.reduceLeDiff, Nat.reduceAdd, Nat.reduceSub, Nat.reduceMul, Int.reduceLT, Int.reduceLE, Int.reduceEq, Int.reduceNeg]
  rw [appendV_fresh (by rfl) rowOf_ints (by simp) (by decide) (by simp [AVal.one]) h3]
  obtain ⟨n, hn⟩ := Int.eq_ofNat_of_zero_le h1
  rw [hn] at h2 ⊢
  have h2' : n < c.past.length := by simpa using h2
  have h4 : n + 1 ≤ c.past.length := h2'
  simp (maxSteps := 2000000) only [go_sem, ↓reduceIte, Nat.reduceLT, Nat.reduceEqDiff, Nat.reduceLeDiff, Nat.reduceAdd, Nat.reduceSub, Nat.reduceMul, Int.reduceLT, Int.reduceLE, Int.reduceEq, Int.reduceNeg, h2', h4]
  have e : own c = c.past.set n c.seq := by unfold own; rw [hn]; rfl
  rw [e, show c.past.length = (c.past.set n c.seq).length by simp]
  exact snap_ints rfl
@[go_sem] theorem r20_Own_call {c : Com} (h1 : 0 ≤ c.st) (h2 : c.st.toNat < c.past.length) (h3 : c.past.length * 8 ≤ maxBytes) {Q : Post3} {k : List Item} {os : List AOper} {d : Option Nat} {e : Env} {σ : Sto} : CallK T Q k os d e σ true i_r20_Own [encC c] ↔ Run T Q (.ops os :: k) (put e d (ints .lst (own c))) σ := r20_Own_spec h1 h2 h3


def limF : List Nat → List Int → List Int
  | _, [] => []
  | [], o => o
  | x :: b, _ :: o => ((x % 6 : Nat) : Int) :: limF b o
theorem limF_nil (o : List Int) : limF [] o = o := by cases o <;> rfl
theorem limF_len : ∀ (b : List Nat) (o : List Int), (limF b o).length = o.length
  | _, [] => by simp [limF]
  | [], _ :: _ => rfl
  | x :: b, _ :: o => by simp [limF, limF_len b o]

theorem rem6 (x : Nat) : IntKind.i64.wrap (Int.tmod (x : Int) 6) = ((x % 6 : Nat) : Int) := by
  have : Int.tmod (x : Int) 6 = ((x % 6 : Nat) : Int) := rfl
  rw [this]
  have : x % 6 < 6 := Nat.mod_lt _ (by decide)
  exact wrap_i64 (by omega) (by omega)

theorem r20_Limit_loop {f : SlF} {b : List Nat} (hb : Fits b) : ∀ i, i ≤ 6 → ∀ o : List Int, o.length = 6 →
    Run T (Res [.tmp 2] (ints .lst (o.take i ++ limF (b.drop i) (o.drop i)))) (.inLoop r20_Limit.b0 :: r20_Limit.k0) (mkE 28 [(0, bytesV f b), (3, .ref 0 6 0 6 1), (4, .int .i64 i)]) [.cells false (o.map fun n => .int .i64 n)] := by
  refine up_ind ?_ fun i hi ih o ho => ?_
  · intro o ho
    rw [run_round, run_unfold r20_Limit.b0.eq_1]
    rw [List.take_of_length_le (by omega), List.drop_eq_nil_of_le (as := o) (by omega), show limF (b.drop 6) [] = [] by cases (b.drop 6) <;> rfl]
    simp (maxSteps := 2000000) only [go_sem, ↓reduceIte, Nat.reduceLT, Nat.reduceEqDiff, Nat.reduceLeDiff, Nat.reduceAdd, Nat.reduceSub, Nat.reduceMul, Int.reduceLT, Int.reduceLE, Int.reduceEq, Int.reduceNeg, run_unfold r20_Limit.c0.eq_1, r20_Limit.k0, ho]
    rw [show (6 : Nat) = o.length from ho.symm, snap_ints (by rfl)]
  · rw [run_round, run_unfold r20_Limit.b0.eq_1]
    have h3 : i < o.length := by omega
    by_cases h : i < b.length
    · simp (maxSteps := 2000000) only [go_sem, ↓reduceIte, Nat.reduceLT, Nat.reduceEqDiff, Nat.reduceLeDiff, Nat.reduceAdd, Nat.reduceSub, Nat.reduceMul, Int.reduceLT, Int.reduceLE, Int.reduceEq, Int.reduceNeg, ho, h, show ((i : Int) < 6) by omega, show (i < 6) by omega, binV_rem, rem6, show i + 1 ≤ 6 by omega, h3, wrap_succ (show i < 9223372036854775807 by omega), show ¬ ((6 : Int) = 0) by omega]
      have := ih (o.set i ((b[i] % 6 : Nat) : Int)) (by simp [ho])
      rw [List.drop_eq_getElem_cons h, List.drop_eq_getElem_cons h3, limF]
      rw [take_set_succ h3, List.append_assoc, List.drop_set_of_lt (by omega)] at this
      exact this
    · rw [List.drop_eq_nil_of_le (as := b) (by omega), limF_nil, List.take_append_drop]
      simp (maxSteps := 2000000) only [go_sem, ↓reduceIte, Nat.reduceLT, Nat.reduceEqDiff, Nat.reduceLeDiff, Nat.reduceAdd, Nat.reduceSub, Nat.reduceMul, Int.reduceLT, Int.reduceLE, Int.reduceEq, Int.reduceNeg, run_unfold r20_Limit.c0.eq_1, r20_Limit.k0, ho, h, show ((i : Int) < 6) by omega]
      rw [show (6 : Nat) = o.length from ho.symm, snap_ints (by rfl)]

def limit (b : List Nat) : List Int := limF b zeros

theorem r20_Limit_spec {f : SlF} {b : List Nat} (hb : Fits b) {lv : List Nat} {σ : Sto} {R : Post} : Cw T true i_r20_Limit [bytesV f b] lv σ R ↔ R (ints .lst (limit b)) σ := by
  refine cw_intro T_r20_Limit (by simp only [go_sem]) (by simp) ?_; rw [run_unfold r20_Limit.main.eq_1]
  simp (maxSteps := 2000000) only [go_sem, ↓reduceIte, Nat.reduceLT, Nat.reduceEqDiff, Nat.reduceLeDiff, Nat.reduceAdd, Nat.reduceSub, Nat.reduceMul, Int.reduceLT, Int.reduceLE, Int.reduceEq, Int.reduceNeg]
  exact r20_Limit_loop hb 0 (by omega) zeros rfl
@[go_sem] theorem r20_Limit_call {f : SlF} {b : List Nat} (hb : Fits b) {Q : Post3} {k : List Item} {os : List AOper} {d : Option Nat} {e : Env} {σ : Sto} : CallK T Q k os d e σ true i_r20_Limit [bytesV f b] ↔ Run T Q (.ops os :: k) (put e d (ints .lst (limit b))) σ := r20_Limit_spec hb


/-! ### What a list of commits has -/
theorem idxOf_cases {α : Type} (p : α → Bool) (l : List α) : (idxOf p l = -1 ∧ l.find? p = none) ∨ ∃ (j : Nat) (h : j < l.length), idxOf p l = (j : Int) ∧ l.find? p = some l[j] := by
  unfold idxOf
  cases h : l.findIdx? p with
  | none =>
    left
    refine ⟨rfl, ?_⟩
    rw [List.find?_eq_none]
    rw [List.findIdx?_eq_none_iff] at h
    intro x hx; simp [h x hx]
  | some j =>
    right
    obtain ⟨hj, hp, hlt⟩ := List.findIdx?_eq_some_iff_getElem.1 h
    refine ⟨j, hj, rfl, ?_⟩
    rw [List.find?_eq_some_iff_getElem]
    exact ⟨hp, j, hj, rfl, fun k hk => by simpa using hlt k hk⟩

def knownL (l : List Com) (past : List Int) : Nat → List Int → Bool
  | _, [] => true
  | s, q :: qs => (if q = 0 then true else match l.find? (isN ⟨s, q⟩) with
    | some c => leq c.past past
    | none => false) && knownL l past (s + 1) qs

theorem r20_known_loop {f g : SlF} {l : List Com} {past : List Int} (hl : Fits l) (hp : Fits past) : ∀ i, i ≤ past.length →
    Run T (Res [.tmp 4] (.bool (knownL l past i (past.drop i)))) (.inLoop r20_known.b0 :: r20_known.k0) (mkE 38 [(0, coms f l), (1, ints g past), (5, .int .i64 i)]) [] := by
  refine up_ind ?_ fun i hi ih => ?_
  · rw [run_round, run_unfold r20_known.b0.eq_1]
    simp (maxSteps := 2000000) only [go_sem, ↓reduceIte, Nat.reduceLT, Nat.reduceEqDiff, Nat.reduceLeDiff, Nat.reduceAdd, Nat.reduceSub, Nat.reduceMul, Int.reduceLT, Int.reduceLE, Int.reduceEq, Int.reduceNeg, run_unfold r20_known.c0.eq_1, run_unfold r20_known.c1.eq_1, r20_known.k0, List.drop_length, knownL]
  · rw [run_round, run_unfold r20_known.b0.eq_1]
    rw [List.drop_eq_getElem_cons hi, knownL]
    have hw := wrap_succ (show i < 9223372036854775807 by omega)
    by_cases h0 : past[i] = 0
    · simp (maxSteps := 2000000) only [go_sem, ↓reduceIte, Nat.reduceLT, Nat.reduceEqDiff, Nat.reduceLeDiff, Nat.reduceAdd, Nat.reduceSub, Nat.reduceMul, Int.reduceLT, Int.reduceLE, Int.reduceEq, Int.reduceNeg, hi, h0, hw]
      exact ih
    · rcases idxOf_cases (isN ⟨i, past[i]⟩) l with ⟨h1, h2⟩ | ⟨j, hj, h1, h2⟩
      · simp (maxSteps := 2000000) only [go_sem, ↓reduceIte, Nat.reduceLT, Nat.reduceEqDiff, Nat.reduceLeDiff, Nat.reduceAdd, Nat.reduceSub, Nat.reduceMul, Int.reduceLT, Int.reduceLE, Int.reduceEq, Int.reduceNeg, hi, h0, hl, h1, h2]
      · cases h3 : leq l[j].past past
        · simp (maxSteps := 2000000) only [go_sem, ↓reduceIte, Nat.reduceLT, Nat.reduceEqDiff, Nat.reduceLeDiff, Nat.reduceAdd, Nat.reduceSub, Nat.reduceMul, Int.reduceLT, Int.reduceLE, Int.reduceEq, Int.reduceNeg, hi, h0, hl, h1, h2, hj, h3, show ¬ ((j : Int) < 0) by omega]
        · simp (maxSteps := 2000000) only [go_sem, ↓reduceIte, Nat.reduceLT, Nat.reduceEqDiff, Nat.reduceLeDiff, Nat.reduceAdd, Nat.reduceSub, Nat.reduceMul, Int.reduceLT, Int.reduceLE, Int.reduceEq, Int.reduceNeg, hi, h0, hl, h1, h2, hj, h3, show ¬ ((j : Int) < 0) by omega, hw]
          exact ih

theorem r20_known_spec {f g : SlF} {l : List Com} {past : List Int} (hl : Fits l) (hp : Fits past) {lv : List Nat} {σ : Sto} {R : Post} : Cw T true i_r20_known [coms f l, ints g past] lv σ R ↔ R (.bool (knownL l past 0 past)) σ := by
  refine cw_intro T_r20_known (by simp only [go_sem]) (by simp) ?_; rw [run_unfold r20_known.main.eq_1]
  simp (maxSteps := 2000000) only [go_sem, ↓reduceIte, Nat.reduceLT, Nat.reduceEqDiff, Nat.reduceLeDiff, Nat.reduceAdd, Nat.reduceSub, Nat.reduceMul, Int.reduceLT, Int.reduceLE, Int.reduceEq, Int.reduceNeg]
  exact r20_known_loop hl hp 0 (by omega)
@[go_sem] theorem r20_known_call {f g : SlF} {l : List Com} {past : List Int} (hl : Fits l) (hp : Fits past) {Q : Post3} {k : List Item} {os : List AOper} {d : Option Nat} {e : Env} {σ : Sto} : CallK T Q k os d e σ true i_r20_known [coms f l, ints g past] ↔ Run T Q (.ops os :: k) (put e d (.bool (knownL l past 0 past))) σ := r20_known_spec hl hp


def okq (l : List Com) (c : List Int) (s : Nat) (q : Nat) : Bool := match l.find? (isN ⟨s, q⟩) with
  | some x => wf x && leq x.past c
  | none => false
/-- how far p holds without a gap, from q on, d steps at most -/
def lead (p : Nat → Bool) : Nat → Nat → Nat
  | q, 0 => q
  | q, d + 1 => if p (q + 1) = true then lead p (q + 1) d else q

theorem r20_fits_loop {f g : SlF} {l : List Com} {c : List Int} {s m : Nat} (hl : Fits l) (hs : s < c.length) (hm : c[s] = (m : Int)) (hb : m < 1000) : ∀ d q, q + d = m →
    Run T (Res [.tmp 6] (.int .i64 (lead (okq l c s) q d : Nat))) (.inLoop r20_fits.b0 :: r20_fits.k0) (mkE 48 [(0, coms f l), (1, ints g c), (2, .int .i64 s), (7, .int .i64 ((q + 1 : Nat) : Int))]) [] := by
  intro d
  induction d with
  | zero =>
    intro q hq
    rw [run_round, run_unfold r20_fits.b0.eq_1]
    simp (maxSteps := 2000000) only [go_sem, ↓reduceIte, Nat.reduceLT, Nat.reduceEqDiff, Nat.reduceLeDiff, Nat.reduceAdd, Nat.reduceSub, Nat.reduceMul, Int.reduceLT, Int.reduceLE, Int.reduceEq, Int.reduceNeg, run_unfold r20_fits.c0.eq_1, r20_fits.k0, hs, hm, show ¬ (((q + 1 : Nat) : Int) ≤ (m : Int)) by omega, lead]
    omega
  | succ d ih =>
    intro q hq
    rw [run_round, run_unfold r20_fits.b0.eq_1]
    have hle : (((q + 1 : Nat) : Int) ≤ (m : Int)) := by omega
    have hw := wrap_succ (show q + 1 < 9223372036854775807 by omega)
    have hw2 : IntKind.i64.wrap (((q + 1 : Nat) : Int) - 1) = (q : Int) := by rw [wrap_i64 (by omega) (by omega)]; omega
    rcases idxOf_cases (isN ⟨s, ((q + 1 : Nat) : Int)⟩) l with ⟨h1, h2⟩ | ⟨j, hj, h1, h2⟩
    · have hk : okq l c s (q + 1) = false := by unfold okq; rw [h2]
      simp (maxSteps := 2000000) only [go_sem, ↓reduceIte, Nat.reduceLT, Nat.reduceEqDiff, Nat.reduceLeDiff, Nat.reduceAdd, Nat.reduceSub, Nat.reduceMul, Int.reduceLT, Int.reduceLE, Int.reduceEq, Int.reduceNeg, hs, hm, hle, hl, h1, lead, hk, hw2]
    · cases h3 : wf l[j]
      · have hk : okq l c s (q + 1) = false := by unfold okq; rw [h2]; simp [h3]
        simp (maxSteps := 2000000) only [go_sem, ↓reduceIte, Nat.reduceLT, Nat.reduceEqDiff, Nat.reduceLeDiff, Nat.reduceAdd, Nat.reduceSub, Nat.reduceMul, Int.reduceLT, Int.reduceLE, Int.reduceEq, Int.reduceNeg, hs, hm, hle, hl, h1, lead, hk, hw2, hj, h3, show ¬ ((j : Int) < 0) by omega]
      · cases h4 : leq l[j].past c
        · have hk : okq l c s (q + 1) = false := by unfold okq; rw [h2]; simp [h3, h4]
          simp (maxSteps := 2000000) only [go_sem, ↓reduceIte, Nat.reduceLT, Nat.reduceEqDiff, Nat.reduceLeDiff, Nat.reduceAdd, Nat.reduceSub, Nat.reduceMul, Int.reduceLT, Int.reduceLE, Int.reduceEq, Int.reduceNeg, hs, hm, hle, hl, h1, lead, hk, hw2, hj, h3, h4, show ¬ ((j : Int) < 0) by omega]
        · have hk : okq l c s (q + 1) = true := by unfold okq; rw [h2]; simp [h3, h4]
          simp (maxSteps := 2000000) only [go_sem, ↓reduceIte, Nat.reduceLT, Nat.reduceEqDiff, Nat.reduceLeDiff, Nat.reduceAdd, Nat.reduceSub, Nat.reduceMul, Int.reduceLT, Int.reduceLE, Int.reduceEq, Int.reduceNeg, hs, hm, hle, hl, h1, lead, hk, hw, hj, h3, h4, show ¬ ((j : Int) < 0) by omega]
          exact ih (q + 1) (by omega)

/-- the number that the reference gives for a station -/
def fit (l : List Com) (c : List Int) (s : Nat) : Nat := lead (okq l c s) 0 (c.getD s 0).toNat

theorem valid_get {c : List Int} (h : valid c = true) {s : Nat} (hs : s < c.length) : ∃ m : Nat, c[s] = (m : Int) ∧ m < 1000 ∧ (c.getD s 0).toNat = m := by
  simp only [valid, Bool.and_eq_true, List.all_eq_true, decide_eq_true_eq] at h
  have := h.2 c[s] (List.getElem_mem hs)
  simp only [okSeq, Bool.and_eq_true, decide_eq_true_eq] at this
  refine ⟨c[s].toNat, by omega, by omega, ?_⟩
  rw [List.getD_eq_getElem?_getD, List.getElem?_eq_getElem hs]; rfl

theorem r20_fits_spec {f g : SlF} {l : List Com} {c : List Int} {s : Nat} (hl : Fits l) (hv : valid c = true) (hs : s < 6) {lv : List Nat} {σ : Sto} {R : Post} : Cw T true i_r20_fits [coms f l, ints g c, .int .i64 s] lv σ R ↔ R (.int .i64 (fit l c s : Nat)) σ := by
  refine cw_intro T_r20_fits (by simp only [go_sem]) (by simp) ?_; rw [run_unfold r20_fits.main.eq_1]
  simp (maxSteps := 2000000) only [go_sem, ↓reduceIte, Nat.reduceLT, Nat.reduceEqDiff, Nat.reduceLeDiff, Nat.reduceAdd, Nat.reduceSub, Nat.reduceMul, Int.reduceLT, Int.reduceLE, Int.reduceEq, Int.reduceNeg]
  have h6 : s < c.length := by rw [valid_len hv]; exact hs
  obtain ⟨m, h1, h2, h3⟩ := valid_get hv h6
  unfold fit
  rw [h3]
  exact r20_fits_loop hl h6 h1 h2 m 0 (by omega)
@[go_sem] theorem r20_fits_call {f g : SlF} {l : List Com} {c : List Int} {s : Nat} (hl : Fits l) (hv : valid c = true) (hs : s < 6) {Q : Post3} {k : List Item} {os : List AOper} {d : Option Nat} {e : Env} {σ : Sto} : CallK T Q k os d e σ true i_r20_fits [coms f l, ints g c, .int .i64 s] ↔ Run T Q (.ops os :: k) (put e d (.int .i64 (fit l c s : Nat))) σ := r20_fits_spec hl hv hs


end Go.Abs
