/- Parts of the proof: C23H, C23I, C23J. -/
import Derived.Test.YtmdkgkhddjhdoaaDoorJD20A
import Derived.Test.YtmdkgkhddjhdoaaDoorJAbsLaw
import Derived.KernelRfl
set_option linter.all false
/- Chapter 23: the examples, by evaluation. -/
namespace Go.Abs
open Go

theorem l23_examples_says : fSays T 1000 i_l23_examples [] AVal.isTrue = true := by kernel_rfl
theorem l23_examples_spec {lv : List Nat} {σ : Sto} {R : Post} : Cw T true i_l23_examples [] lv σ R ↔ R (.bool true) σ := cw_true T_l23_examples rfl l23_examples_says
@[go_sem] theorem l23_examples_call {Q : Post3} {k : List Item} {os : List AOper} {d : Option Nat} {e : Env} {σ : Sto} : CallK T Q k os d e σ true i_l23_examples [] ↔ Run T Q (.ops os :: k) (put e d (.bool true)) σ := l23_examples_spec
end Go.Abs
/- Chapter 23: what taking and granting keep. -/
set_option linter.unusedSimpArgs false
set_option linter.unusedVariables false
set_option maxRecDepth 10000
namespace Go.Abs
open Go

theorem rem6u (x : Nat) : IntKind.i64.wrap (Int.tmod (x : Int) 6) = ((x % 6 : Nat) : Int) := rem6 x
theorem one10 (x : Nat) : IntKind.i64.wrap (1 + ((x % 10 : Nat) : Int)) = ((1 + x % 10 : Nat) : Int) := by
  have : x % 10 < 10 := Nat.mod_lt _ (by decide)
  rw [wrap_i64 (by omega) (by omega)]; omega

abbrev gotC (r : Option (List Int)) : List AVal := match r with
  | some y => [ints .lst y, .int .i64 0]
  | none => [.nils, .int .i64 230]
theorem gotG_C (r : Option (List Int)) : gotG r = .agg (gotC r) := by cases r <;> rfl

set_option maxHeartbeats 2000000 in
theorem l23_EscrowConserves_loop {s : List Int} {p q : Option (List Int)} {n m : Nat} (hs : s.length = 6) {k3 : List AVal}
    (hp : ∀ y, p = some y → y.length = 6 ∧ ∀ (i : Nat) (h1 : i < y.length) (h2 : i < s.length), i ≠ n → y[i] = s[i])
    (hq : ∀ y, q = some y → y.length = 6 ∧ ∀ (i : Nat) (h1 : i < y.length) (h2 : i < s.length), i ≠ n → i ≠ m → y[i] = s[i]) : ∀ i, i ≤ s.length →
    Run T (Res [.tmp 4] (.bool true)) (.inLoop l23_EscrowConserves.b0 :: l23_EscrowConserves.k0) (mkE 252 [(5, .bool true), (6, ints .lst s), (7, .int .i64 n), (8, .int .i64 m), (10, .ptr 1 2 0), (11, .ptr 2 2 0), (13, .int .i64 i)])
      [.cells false k3, .cells false (gotC p), .cells false (gotC q)] := by
  refine up_ind ?_ fun i hi ih => ?_
  · rw [run_round, run_unfold l23_EscrowConserves.b0.eq_1]
    rcases p with _ | y <;> rcases q with _ | w
    · simp (maxSteps := 2000000) only [go_sem, ↓reduceIte, Nat.reduceLT, Nat.reduceEqDiff, Nat.reduceLeDiff, Nat.reduceAdd, Nat.reduceSub, Nat.reduceMul, Int.reduceLT, Int.reduceLE, Int.reduceEq, Int.reduceNeg, Nat.lt_irrefl, run_unfold l23_EscrowConserves.c0.eq_1, run_unfold l23_EscrowConserves.c1.eq_1, l23_EscrowConserves.k0, gotC]
    · simp (maxSteps := 2000000) only [go_sem, ↓reduceIte, Nat.reduceLT, Nat.reduceEqDiff, Nat.reduceLeDiff, Nat.reduceAdd, Nat.reduceSub, Nat.reduceMul, Int.reduceLT, Int.reduceLE, Int.reduceEq, Int.reduceNeg, Nat.lt_irrefl, run_unfold l23_EscrowConserves.c0.eq_1, run_unfold l23_EscrowConserves.c1.eq_1, l23_EscrowConserves.k0, gotC]
    · simp (maxSteps := 2000000) only [go_sem, ↓reduceIte, Nat.reduceLT, Nat.reduceEqDiff, Nat.reduceLeDiff, Nat.reduceAdd, Nat.reduceSub, Nat.reduceMul, Int.reduceLT, Int.reduceLE, Int.reduceEq, Int.reduceNeg, Nat.lt_irrefl, run_unfold l23_EscrowConserves.c0.eq_1, run_unfold l23_EscrowConserves.c1.eq_1, l23_EscrowConserves.k0, gotC]
    · simp (maxSteps := 2000000) only [go_sem, ↓reduceIte, Nat.reduceLT, Nat.reduceEqDiff, Nat.reduceLeDiff, Nat.reduceAdd, Nat.reduceSub, Nat.reduceMul, Int.reduceLT, Int.reduceLE, Int.reduceEq, Int.reduceNeg, Nat.lt_irrefl, run_unfold l23_EscrowConserves.c0.eq_1, run_unfold l23_EscrowConserves.c1.eq_1, l23_EscrowConserves.k0, gotC]
  · have hw := wrap_succ (show i < 9223372036854775807 by omega)
    rw [run_round, run_unfold l23_EscrowConserves.b0.eq_1]
    by_cases hn : i = n
    · subst hn
      simp (maxSteps := 2000000) only [go_sem, ↓reduceIte, Nat.reduceLT, Nat.reduceEqDiff, Nat.reduceLeDiff, Nat.reduceAdd, Nat.reduceSub, Nat.reduceMul, Int.reduceLT, Int.reduceLE, Int.reduceEq, Int.reduceNeg, hi, gotC, hw]
      exact ih
    · have hn' : ¬ ((i : Int) = (n : Int)) := by omega
      rcases p with _ | y
      · rcases q with _ | w
        · by_cases hm : i = m
          · subst hm; simp (maxSteps := 2000000) only [go_sem, ↓reduceIte, Nat.reduceLT, Nat.reduceEqDiff, Nat.reduceLeDiff, Nat.reduceAdd, Nat.reduceSub, Nat.reduceMul, Int.reduceLT, Int.reduceLE, Int.reduceEq, Int.reduceNeg, hi, hn', gotC, hw]; exact ih
          · have hm' : ¬ ((i : Int) = (m : Int)) := by omega
            simp (maxSteps := 2000000) only [go_sem, ↓reduceIte, Nat.reduceLT, Nat.reduceEqDiff, Nat.reduceLeDiff, Nat.reduceAdd, Nat.reduceSub, Nat.reduceMul, Int.reduceLT, Int.reduceLE, Int.reduceEq, Int.reduceNeg, hi, hn', hm', gotC, hw]; exact ih
        · obtain ⟨w1, w2⟩ := hq w rfl
          by_cases hm : i = m
          · subst hm; simp (maxSteps := 2000000) only [go_sem, ↓reduceIte, Nat.reduceLT, Nat.reduceEqDiff, Nat.reduceLeDiff, Nat.reduceAdd, Nat.reduceSub, Nat.reduceMul, Int.reduceLT, Int.reduceLE, Int.reduceEq, Int.reduceNeg, hi, hn', gotC, hw]; exact ih
          · have hm' : ¬ ((i : Int) = (m : Int)) := by omega
            have hiw : i < w.length := by omega
            simp (maxSteps := 2000000) only [go_sem, ↓reduceIte, Nat.reduceLT, Nat.reduceEqDiff, Nat.reduceLeDiff, Nat.reduceAdd, Nat.reduceSub, Nat.reduceMul, Int.reduceLT, Int.reduceLE, Int.reduceEq, Int.reduceNeg, hi, hiw, hn', hm', gotC, hw, w2 i hiw hi hn hm]; exact ih
      · obtain ⟨y1, y2⟩ := hp y rfl
        have hiy : i < y.length := by omega
        rcases q with _ | w
        · by_cases hm : i = m
          · subst hm; simp (maxSteps := 2000000) only [go_sem, ↓reduceIte, Nat.reduceLT, Nat.reduceEqDiff, Nat.reduceLeDiff, Nat.reduceAdd, Nat.reduceSub, Nat.reduceMul, Int.reduceLT, Int.reduceLE, Int.reduceEq, Int.reduceNeg, hi, hiy, hn', gotC, hw, y2 i hiy hi hn]; exact ih
          · have hm' : ¬ ((i : Int) = (m : Int)) := by omega
            simp (maxSteps := 2000000) only [go_sem, ↓reduceIte, Nat.reduceLT, Nat.reduceEqDiff, Nat.reduceLeDiff, Nat.reduceAdd, Nat.reduceSub, Nat.reduceMul, Int.reduceLT, Int.reduceLE, Int.reduceEq, Int.reduceNeg, hi, hiy, hn', hm', gotC, hw, y2 i hiy hi hn]; exact ih
        · obtain ⟨w1, w2⟩ := hq w rfl
          have hiw : i < w.length := by omega
          by_cases hm : i = m
          · subst hm; simp (maxSteps := 2000000) only [go_sem, ↓reduceIte, Nat.reduceLT, Nat.reduceEqDiff, Nat.reduceLeDiff, Nat.reduceAdd, Nat.reduceSub, Nat.reduceMul, Int.reduceLT, Int.reduceLE, Int.reduceEq, Int.reduceNeg, hi, hiy, hn', gotC, hw, y2 i hiy hi hn]; exact ih
          · have hm' : ¬ ((i : Int) = (m : Int)) := by omega
            simp (maxSteps := 2000000) only [go_sem, ↓reduceIte, Nat.reduceLT, Nat.reduceEqDiff, Nat.reduceLeDiff, Nat.reduceAdd, Nat.reduceSub, Nat.reduceMul, Int.reduceLT, Int.reduceLE, Int.reduceEq, Int.reduceNeg, hi, hiy, hiw, hn', hm', gotC, hw, y2 i hiy hi hn, w2 i hiw hi hn hm]; exact ih

/-! ### What taking and granting leave -/
theorem takeP_none {x : List Int} {st v : Int} (h1 : 0 ≤ st) (h2 : st < 6) (h3 : 1 ≤ v) : takeP x st v = none ↔ x.getD st.toNat 0 < v := by
  unfold takeP
  by_cases h : v ≤ x.getD st.toNat 0
  · simp [h1, h2, h3, h]
  · simp [h]; omega
theorem totalP_good {x : List Int} (h : Good x) : totalP x = x.sum := by unfold totalP; rw [svalid_good.2 h]; rfl

theorem sum_pos : ∀ {l : List Int}, (∀ n ∈ l, 0 ≤ n) → 0 ≤ l.sum
  | [], _ => by simp
  | a :: l, h => by
    have h1 := h a (by simp)
    have h2 := sum_pos (l := l) fun n hn => h n (by simp [hn])
    rw [List.sum_cons]; omega

end Go.Abs
/- Chapter 23: no share becomes negative, a grant keeps the total, what is taken is missing. -/
set_option linter.unusedSimpArgs false
set_option linter.unusedVariables false
set_option maxRecDepth 10000
namespace Go.Abs
open Go

set_option maxHeartbeats 4000000 in
theorem l23_EscrowConserves_true {f : SlF} {b : List Nat} {k : Tri} (hb : Fits b) {lv : List Nat} {σ : Sto} {R : Post} : Cw T true i_l23_EscrowConserves [bytesV f b, .agg (cells3 k)] lv σ R ↔ R (.bool true) σ := by
  refine cw_intro T_l23_EscrowConserves (by simp only [go_sem]) (by simp) ?_; rw [run_unfold l23_EscrowConserves.main.eq_1]
  have hG := sharesP_good b
  have hB := sharesP_bnd b
  generalize hsd : sharesP b = s at hG hB
  have hsv := svalid_good.2 hG
  have hl := hG.len
  have hn6 : k.a % 6 < 6 := Nat.mod_lt _ (by decide)
  have hm6 : k.b % 6 < 6 := Nat.mod_lt _ (by decide)
  have hv10 : k.c % 10 < 10 := Nat.mod_lt _ (by decide)
  generalize hn : k.a % 6 = n at hn6
  generalize hm : k.b % 6 = m at hm6
  generalize hv : 1 + k.c % 10 = v
  have hv1 : 1 ≤ v := by omega
  have hv2 : v ≤ 10 := by omega
  have hns : n < s.length := by omega
  have hms : m < s.length := by omega
  have hsn := hB s[n] (List.getElem_mem hns)
  have hsm := hB s[m] (List.getElem_mem hms)
  have hgn : s.getD ((n : Int)).toNat 0 = s[n] := getD_get hns
  have htn := takeP_none (x := s) (st := n) (v := v) (by omega) (by omega) (by omega)
  rw [hgn] at htn
  have hsum := hG.sum
  have hsum0 := sum_pos hG.pos
  have hsumT := totalP_good hG
  by_cases hle : (v : Int) ≤ s[n]
  case neg =>
    have hp : takeP s n v = none := htn.2 (by omega)
    have hq : grantP s n m v = none := by unfold grantP; rw [hp]; simp
    simp (maxSteps := 2000000) only [go_sem, ↓reduceIte, Nat.reduceLT, Nat.reduceEqDiff, Nat.reduceLeDiff, Nat.reduceAdd, Nat.reduceSub, Nat.reduceMul, Int.reduceLT, Int.reduceLE, Int.reduceEq, Int.reduceNeg, hb, hsd, binV_rem, show ¬ ((6 : Int) = 0) by omega, show ¬ ((10 : Int) = 0) by omega, rem6u, rem10, one10, hn, hm, hv, hsv, hp, hq, gotG, hns, hle]
    exact l23_EscrowConserves_loop (p := none) (q := none) hl (fun y h => by simp at h) (fun y h => by simp at h) 0 (by omega)
  obtain ⟨y, hp⟩ : ∃ y, takeP s n v = some y := by
    cases h : takeP s n v with
    | none => have := htn.1 h; omega
    | some y => exact ⟨y, rfl⟩
  have hy := takeP_some hp
  have hyG := takeP_good hG hp
  have hyv := svalid_good.2 hyG
  have hyT : totalP y = s.sum - v := by rw [totalP_good hyG, takeP_sum hG hp]
  have hyl := hyG.len
  have hyF : Fits y := by unfold Fits; omega
  have hny : n < y.length := by omega
  have hmy : m < y.length := by omega
  have hy' : y = s.set n (s[n] - v) := by have := hy.2.2.2.2; rwa [hgn, Int.toNat_natCast] at this
  have hyn : y[n] = s[n] - v := by simp [hy']
  have hyi : ∀ (i : Nat) (h1 : i < y.length) (h2 : i < s.length), i ≠ n → y[i] = s[i] := by
    intro i h1 h2 h3
    simp [hy', List.getElem_set, Ne.symm h3]
  have w1 : IntKind.i64.wrap (s.sum - v) = s.sum - v := wrap_i64 (by unfold maxN at *; omega) (by unfold maxN at *; omega)
  have w2 : IntKind.i64.wrap (s[n] - v) = s[n] - v := wrap_i64 (by omega) (by omega)
  have w3 : IntKind.i64.wrap (s[m] + v) = s[m] + v := wrap_i64 (by omega) (by omega)
  by_cases hnm : n = m
  case pos =>
    subst hnm
    have hq : grantP s n n v = none := by unfold grantP; simp
    simp (maxSteps := 2000000) only [go_sem, ↓reduceIte, Nat.reduceLT, Nat.reduceEqDiff, Nat.reduceLeDiff, Nat.reduceAdd, Nat.reduceSub, Nat.reduceMul, Int.reduceLT, Int.reduceLE, Int.reduceEq, Int.reduceNeg, hb, hsd, binV_rem, show ¬ ((6 : Int) = 0) by omega, show ¬ ((10 : Int) = 0) by omega, rem6u, rem10, one10, hn, hm, hv, hsv, hp, hq, gotG, hns, hle, hny, hyv, hyT, hsumT, hyn, w1, w2, hyl, hyF, hn6, hm6]
    exact l23_EscrowConserves_loop (p := some y) (q := none) hl (fun z h => by cases h; exact ⟨hyl, hyi⟩) (fun y h => by simp at h) 0 (by omega)
  have hnm' : ¬ ((n : Int) = (m : Int)) := by omega
  obtain ⟨w, hq, hw'⟩ : ∃ w, grantP s n m v = some w ∧ w = y.set m (y[m] + v) := by
    refine ⟨_, ?_, rfl⟩
    unfold grantP
    rw [if_pos ⟨by omega, by omega, by omega⟩, hp, Option.map_some, Int.toNat_natCast, getD_get hmy]
  have hwG := grantP_good hG hq
  have hwv := svalid_good.2 hwG
  have hwT : totalP w = s.sum := by rw [totalP_good hwG, grantP_sum hG hq]
  have hwl := hwG.len
  have hwF : Fits w := by unfold Fits; omega
  have hnw : n < w.length := by omega
  have hmw : m < w.length := by omega
  have hym : y[m] = s[m] := hyi m hmy hms (by omega)
  have hwn : w[n] = s[n] - v := by simp only [hw', List.getElem_set, if_neg (Ne.symm hnm), hyn]
  have hwm : w[m] = s[m] + v := by simp [hw', hym]
  have hwi : ∀ (i : Nat) (h1 : i < w.length) (h2 : i < s.length), i ≠ n → i ≠ m → w[i] = s[i] := by
    intro i h1 h2 h3 h4
    have := hyi i (by omega) h2 h3
    simp [hw', List.getElem_set, Ne.symm h4, this]
  simp (maxSteps := 2000000) only [go_sem, ↓reduceIte, Nat.reduceLT, Nat.reduceEqDiff, Nat.reduceLeDiff, Nat.reduceAdd, Nat.reduceSub, Nat.reduceMul, Int.reduceLT, Int.reduceLE, Int.reduceEq, Int.reduceNeg, hb, hsd, binV_rem, show ¬ ((6 : Int) = 0) by omega, show ¬ ((10 : Int) = 0) by omega, rem6u, rem10, one10, hn, hm, hv, hsv, hp, hq, gotG, hns, hms, hnm', hle, hny, hyv, hyT, hsumT, hyn, w1, w2, w3, hyl, hnw, hmw, hwv, hwT, hwn, hwm, hwl, hyF, hwF, hn6, hm6]
  exact l23_EscrowConserves_loop (p := some y) (q := some w) hl (fun z h => by cases h; exact ⟨hyl, hyi⟩) (fun z h => by cases h; exact ⟨hwl, hwi⟩) 0 (by omega)
end Go.Abs
