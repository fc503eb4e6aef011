/- The walk of CutGreatest. -/
import Derived.Test.YtaiibojjndeipaaJC20E
import Derived.Test.YtaiibojjndeipaaAbsVal2
set_option linter.all false
set_option linter.unusedSimpArgs false
set_option linter.unusedVariables false
set_option maxRecDepth 100000
set_option maxHeartbeats 4000000
namespace Go.Abs
open Go

theorem allL_get {t : Nat} (h : t < 6) : allL.getD t 0 = 999 := by
  match t, h with
  | 0, _ | 1, _ | 2, _ | 3, _ | 4, _ | 5, _ => rfl
theorem le_all {a : List Int} (h : valid a = true) : le a allL := fun t => by
  by_cases ht : t < 6
  · rw [allL_get ht]; exact ((valid_iff.1 h).2 t).2
  · rw [List.getD_eq_getElem?_getD, List.getElem?_eq_none (by rw [valid_len h]; omega), List.getD_eq_getElem?_getD, List.getElem?_eq_none (by simp [allL]; omega)]
    exact Int.le_refl _

theorem great_all {b : List Nat} {H : List Int} (h : Gre (headers b) allL H) : ∃ x y z : Int, H = [x, y, z, 0, 0, 0] ∧ 0 ≤ x ∧ 0 ≤ y ∧ 0 ≤ z ∧ x + y + z = ((headers b).length : Int) := by
  have hl := headers_lgood b
  have hg := headers_good b
  have hc : Cnt ((b.take 12).foldl hstep ⟨[], [zeros, zeros, zeros]⟩) := by
    have h0 : HGood ⟨[], [zeros, zeros, zeros]⟩ := headers_good []
    exact (cnt_fold (b.take 12) _ h0 (by unfold Cnt diag; rfl) (by simp; omega)).1
  have h12 := headers_fits b
  have hout : ((b.take 12).foldl hstep ⟨[], [zeros, zeros, zeros]⟩).out = headers b := rfl
  generalize (b.take 12).foldl hstep ⟨[], [zeros, zeros, zeros]⟩ = X at hg hc hout
  rw [← hout] at h hl h12 ⊢
  have hclo := clo_of_closed hl h.v h.cl
  have v6 := valid_len h.v
  have low : ∀ s, s < 3 → diag X.K s ≤ H.getD s 0 := by
    intro s hs
    obtain ⟨k1, g1, r1⟩ := hg.inv.get hs
    have hm : X.K[s] ∈ X.K := List.getElem_mem k1
    have hv := valid_row r1 (by omega)
    have := h.gr X.K[s] hv (closed_of_clo hl hv (hg.clo _ hm)) (le_all hv) s
    unfold diag
    rw [g1]; exact this
  have up : ∀ s, 1 ≤ H.getD s 0 → s < 3 ∧ H.getD s 0 ≤ diag X.K s := by
    intro s h1
    obtain ⟨c, hcm, e1, e2, _⟩ := hclo s _ h1 (Int.le_refl _)
    have g := hg.coms c hcm
    have ht := hg.top c hcm
    have h3 := g.s3
    rw [e1] at h3 ht
    rw [e2] at ht
    refine ⟨by omega, ?_⟩
    unfold diag
    simpa using ht
  have nn : ∀ s, 0 ≤ H.getD s 0 := fun s => ((valid_iff.1 h.v).2 s).1
  have dn : ∀ s, s < 3 → 0 ≤ diag X.K s := by
    intro s hs
    obtain ⟨k1, g1, r1⟩ := hg.inv.get hs
    unfold diag
    rw [g1]
    exact (r1.2 _ (getD_mem (by omega))).1
  have eq : ∀ s, s < 3 → H.getD s 0 = diag X.K s := by
    intro s hs
    have h1 := low s hs
    have h2 := nn s
    have h3 := dn s hs
    by_cases h4 : 1 ≤ H.getD s 0
    · have := (up s h4).2; omega
    · omega
  have z : ∀ s, 3 ≤ s → H.getD s 0 = 0 := by
    intro s hs
    have h2 := nn s
    by_cases h4 : 1 ≤ H.getD s 0
    · have := (up s h4).1; omega
    · omega
  unfold Cnt at hc
  rw [← eq 0 (by omega), ← eq 1 (by omega), ← eq 2 (by omega)] at hc
  have n0 := nn 0
  have n1 := nn 1
  have n2 := nn 2
  have z3 := z 3 (by omega)
  have z4 := z 4 (by omega)
  have z5 := z 5 (by omega)
  obtain ⟨a0, a1, a2, a3, a4, a5, rfl⟩ := six v6
  have e3 : a3 = 0 := z3
  have e4 : a4 = 0 := z4
  have e5 : a5 = 0 := z5
  exact ⟨a0, a1, a2, by rw [e3, e4, e5], n0, n1, n2, hc⟩

/-- the plain law of CutGreatest -/
structure Greatest (l : List Com) (lim : List Int) (n : Nat) (oth : List Int) (b : List Nat) : Prop where
  vlim : valid lim = true
  g : Gre l lim (reachF l 6000 lim)
  h : Gre l allL (reachF l 6000 allL)
  p : Gre (l.take n) lim (reachF (l.take n) 6000 lim)
  vo : valid oth = true
  co : closed l oth = true
  fit : ∀ c, reachF (shuffled l b) 6000 c = reachF l 6000 c
  has : ∀ c ∈ l, has (reachF l 6000 allL) c.nam = true
  cnt : sumW (reachF l 6000 allL) = (l.length : Int)
  len : l.length ≤ 12

theorem valid_allL : valid allL = true := by decide

theorem greatest_good (x : List Nat) (n : Nat) (k0 k1 k2 : List Nat) : Greatest (headers x) (limit k0) n (cutOfL (headers x) k1) k2 := by
  have hl := headers_lgood x
  have h12 := headers_fits x
  have vl := valid_limit k0
  obtain ⟨co, vo⟩ := cutOfL_closed (headers x) k1
  have H := reachF_gre (l := headers x) valid_allL
  refine ⟨vl, reachF_gre vl, H, reachF_gre vl, vo, co, fun c => reachF_congr (fun n => find_same hl (fun c => shuffled_mem c) n) _ c, fun c hc => ?_, ?_, h12⟩
  · have ge := hl.coms c hc
    have vow := own_valid ge
    rw [has_own hl H.v (clo_of_closed hl H.v H.cl) hc]
    exact H.gr _ vow (closed_of_clo hl vow (own_clo ge hc)) (le_all vow)
  · obtain ⟨a, b, c, e, h1, h2, h3, h4⟩ := great_all H
    rw [e, sumW_eq (by rfl) (by intro y hy; simp at hy; omega)]
    simp only [List.sum_cons, List.sum_nil]
    omega

abbrev grS (f0 f1 f2 : SlF) (k0 k1 k2 : List Nat) (g h p : List Int) : Sto := [.cells false [bytesV f0 k0, bytesV f1 k1, bytesV f2 k2], .cells false [ints .lst g, .int .i64 0], .cells false [ints .lst h, .int .i64 0], .cells false [ints .lst p, .int .i64 0]]

theorem gr_b1 {f0 f1 f2 : SlF} {k0 k1 k2 : List Nat} {l : List Com} {lim oth p : List Int} {n : Nat} (hf : Fits l) (P : Greatest l lim n oth k2) (h2 : Fits k2) (h28 : ∀ n ∈ k2, n < 256) : ∀ i, i ≤ l.length →
    Run T (Ret [.tmp 4] yes) (.inLoop l20_CutGreatest.b1 :: l20_CutGreatest.k1) (mkE 163 [(3, .ptr 0 3 0), (5, .bool true), (6, coms .lst l), (7, ints .lst lim), (9, .ptr 1 2 0), (10, .ptr 2 2 0), (13, .int .i64 l.length), (15, .int .i64 i)]) (grS f0 f1 f2 k0 k1 k2 (reachF l 6000 lim) (reachF l 6000 allL) p) := by
  have h12 := P.len
  have fs : Fits (shuffled l k2) := by
    unfold Fits shuffled
    simp only [List.length_append, List.length_take, shuf_len, List.length_nil]
    omega
  have fg := fits6 P.g.v
  have fh := fits6 P.h.v
  refine up_ind ?_ fun i hi ih => ?_
  · rw [run_round, run_unfold l20_CutGreatest.b1.eq_1]
    simp (maxSteps := 2000000) only [go_sem, ↓reduceIte, Nat.reduceLT, Nat.reduceEqDiff, Nat.reduceLeDiff, Nat.reduceAdd, Nat.reduceSub, Nat.reduceMul, Int.reduceLT, Int.reduceLE, Int.reduceEq, Int.reduceNeg, run_unfold l20_CutGreatest.c0.eq_1, run_unfold l20_CutGreatest.c1.eq_1, l20_CutGreatest.k0, l20_CutGreatest.k1, Nat.lt_irrefl, x_ia2, r20_Shuffled_call (f := .lst) (g := f2) hf (by omega) h2 h28, l20_greatest_call (f := .lst) (g := .lst) fs, greatestP, P.vlim, P.fit, x_eq, decide_true, Bool.and_self, fg, x_allc, x_allv, valid_allL, fh]
  · rw [run_round, run_unfold l20_CutGreatest.b1.eq_1]
    have hh : has (reachF l 6000 allL) ⟨l[i].st, l[i].seq⟩ = true := P.has _ (List.getElem_mem hi)
    simp (maxSteps := 2000000) only [go_sem, ↓reduceIte, Nat.reduceLT, Nat.reduceEqDiff, Nat.reduceLeDiff, Nat.reduceAdd, Nat.reduceSub, Nat.reduceMul, Int.reduceLT, Int.reduceLE, Int.reduceEq, Int.reduceNeg, hi, hf, hh, wrap_succ (show i < 9223372036854775807 by omega), run_unfold l20_CutGreatest.c0.eq_1, run_unfold l20_CutGreatest.c1.eq_1, l20_CutGreatest.k0, l20_CutGreatest.k1]
    exact ih

theorem gr_b0 {f0 f1 f2 : SlF} {k0 k1 k2 : List Nat} {l : List Com} {lim oth p : List Int} {n : Nat} (hf : Fits l) (P : Greatest l lim n oth k2) (h2 : Fits k2) (h28 : ∀ n ∈ k2, n < 256) : ∀ i, i ≤ 6 → ∀ m : Int, ((reachF l 6000 allL).drop i).foldl addW m = (l.length : Int) →
    Run T (Ret [.tmp 4] yes) (.inLoop l20_CutGreatest.b0 :: l20_CutGreatest.k0) (mkE 163 [(3, .ptr 0 3 0), (5, .bool true), (6, coms .lst l), (7, ints .lst lim), (9, .ptr 1 2 0), (10, .ptr 2 2 0), (13, .int .i64 m), (14, .int .i64 i)]) (grS f0 f1 f2 k0 k1 k2 (reachF l 6000 lim) (reachF l 6000 allL) p) := by
  have h6 := valid_len P.h.v
  refine up_ind ?_ fun i hi ih => ?_
  · intro m hm
    rw [run_round, run_unfold l20_CutGreatest.b0.eq_1]
    rw [List.drop_eq_nil_of_le (by omega)] at hm
    simp (maxSteps := 2000000) only [go_sem, ↓reduceIte, Nat.reduceLT, Nat.reduceEqDiff, Nat.reduceLeDiff, Nat.reduceAdd, Nat.reduceSub, Nat.reduceMul, Int.reduceLT, Int.reduceLE, Int.reduceEq, Int.reduceNeg, run_unfold l20_CutGreatest.c0.eq_1, run_unfold l20_CutGreatest.c1.eq_1, l20_CutGreatest.k0, l20_CutGreatest.k1, h6]
    rw [show m = (l.length : Int) from hm]
    exact gr_b1 hf P h2 h28 0 (by omega)
  · intro m hm
    rw [run_round, run_unfold l20_CutGreatest.b0.eq_1]
    have hi' : i < (reachF l 6000 allL).length := by omega
    rw [List.drop_eq_getElem_cons hi', List.foldl_cons] at hm
    simp (maxSteps := 2000000) only [go_sem, ↓reduceIte, Nat.reduceLT, Nat.reduceEqDiff, Nat.reduceLeDiff, Nat.reduceAdd, Nat.reduceSub, Nat.reduceMul, Int.reduceLT, Int.reduceLE, Int.reduceEq, Int.reduceNeg, h6, hi, show ((i : Int) < 6) by omega, wrap_succ (show i < 9223372036854775807 by omega), run_unfold l20_CutGreatest.c0.eq_1, run_unfold l20_CutGreatest.c1.eq_1, l20_CutGreatest.k0, l20_CutGreatest.k1]
    exact ih _ hm

theorem cutGreatest_true {f f0 f1 f2 : SlF} {x k0 k1 k2 : List Nat} (hb : Fits x) (hb8 : ∀ n ∈ x, n < 256) (h0 : Fits k0) (h1 : Fits k1) (h2 : Fits k2) (h28 : ∀ n ∈ k2, n < 256) : Cw T false i_l20_CutGreatest [bytesV f x, .agg [bytesV f0 k0, bytesV f1 k1, bytesV f2 k2]] [] [] yes := by
  have hf : Fits (headers x) := by have := headers_fits x; unfold Fits; omega
  obtain ⟨n, hn⟩ : ∃ n : Nat, n = (headers x).length - min (headers x).length (k2.length % 4) := ⟨_, rfl⟩
  have P := greatest_good x n k0 k1 k2
  generalize hL : headers x = l at hf P hn
  generalize hO : cutOfL l k1 = oth at P
  generalize hM : limit k0 = lim at P
  have h12 := P.len
  have fp : Fits (l.take n) := by unfold Fits; rw [List.length_take]; omega
  rw [cw_enter T_l20_CutGreatest (by simp), run_unfold l20_CutGreatest.main.eq_1]
  simp (maxSteps := 2000000) only [go_sem, ↓reduceIte, Nat.reduceLT, Nat.reduceEqDiff, Nat.reduceLeDiff, Nat.reduceAdd, Nat.reduceSub, Nat.reduceMul, Int.reduceLT, Int.reduceLE, Int.reduceEq, Int.reduceNeg, r20_Headers_call (f := f) hb hb8, hL, h0, x_ia0, x_ia1, x_ia2, hM]
  have e0 : Int.tmod (k2.length : Int) 4 = ((k2.length % 4 : Nat) : Int) := rfl
  have e1 : IntKind.i64.wrap ((l.length : Int) - if Int.tmod (k2.length : Int) 4 < (l.length : Int) then Int.tmod (k2.length : Int) 4 else (l.length : Int)) = (n : Int) := by
    rw [e0]
    have : (k2.length % 4 : Nat) < 4 := Nat.mod_lt _ (by omega)
    have e2 : ((l.length : Int) - if ((k2.length % 4 : Nat) : Int) < (l.length : Int) then ((k2.length % 4 : Nat) : Int) else (l.length : Int)) = (n : Int) := by
      split <;> omega
    rw [e2, wrap_i64 (by omega) (by omega)]
  rw [e1]
  refine after_of (v := coms .lst (l.take n)) (slice_sv_take (by omega)) ?_
  have q1 := closedP_of P.g.cl
  have q2 := leq_of_le P.g.v P.vlim P.g.lo
  have q3 := leq_of_le P.p.v P.g.v (P.g.gr _ P.p.v (closed_take P.p.v P.p.cl) P.p.lo)
  have q4 := leq_of_le P.g.v P.h.v (P.h.gr _ P.g.v P.g.cl (le_all P.g.v))
  have q5 := closedP_of P.co
  have q6 : leq oth lim = true → leq oth (reachF l 6000 lim) = true := fun h => leq_of_le P.vo P.g.v (P.g.gr _ P.vo P.co ((leq_iff P.vo P.vlim).1 h))
  cases h3 : leq oth lim
  · simp (maxSteps := 2000000) only [go_sem, ↓reduceIte, Nat.reduceLT, Nat.reduceEqDiff, Nat.reduceLeDiff, Nat.reduceAdd, Nat.reduceSub, Nat.reduceMul, Int.reduceLT, Int.reduceLE, Int.reduceEq, Int.reduceNeg, l20_greatest_call (f := .lst) (g := .lst) hf, l20_greatest_call (f := .lst) (g := .lst) fp, greatestP, P.vlim, x_allc, x_allv, valid_allL, hf, q1, q2, q3, q4, q5, h3, x_ia0, x_ia1, x_ia2, r20_CutOf_call (f := .lst) (g := f1) hf h1, hO]
    exact gr_b0 hf P h2 h28 0 (by omega) 0 P.cnt
  · simp (maxSteps := 2000000) only [go_sem, ↓reduceIte, Nat.reduceLT, Nat.reduceEqDiff, Nat.reduceLeDiff, Nat.reduceAdd, Nat.reduceSub, Nat.reduceMul, Int.reduceLT, Int.reduceLE, Int.reduceEq, Int.reduceNeg, l20_greatest_call (f := .lst) (g := .lst) hf, l20_greatest_call (f := .lst) (g := .lst) fp, greatestP, P.vlim, x_allc, x_allv, valid_allL, hf, q1, q2, q3, q4, q5, h3, q6 h3, x_ia0, x_ia1, x_ia2, r20_CutOf_call (f := .lst) (g := f1) hf h1, hO]
    exact gr_b0 hf P h2 h28 0 (by omega) 0 P.cnt

end Go.Abs
