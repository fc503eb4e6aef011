/- Parts of the proof: C20ZB, C20ZE, C20ZF. -/
import Derived.Test.YtaiibojjndeipaaJC20E
import Derived.Test.YtaiibojjndeipaaJC20ZC
import Derived.Test.YtaiibojjndeipaaAbsVal2
set_option linter.all false
/- The walk of CutGreatest. -/
set_option linter.unusedSimpArgs false
set_option linter.unusedVariables false
set_option maxRecDepth 100000
set_option maxHeartbeats 4000000
namespace Go.Abs
open Go

theorem allL_get {t : Nat} (h : t < 6) : allL.getD t 0 = 999 := by
  match t, h with
  | 0, _ | 1, _ | 2, _ | 3, _ | 4, _ | 5, _ => rfl
theorem le_all {a : List Int} (h : valid a = true) : le a allL := fun t => by
  by_cases ht : t < 6
  · rw [allL_get ht]; exact ((valid_iff.1 h).2 t).2
  · rw [List.getD_eq_getElem?_getD, List.getElem?_eq_none (by rw [valid_len h]; omega), List.getD_eq_getElem?_getD, List.getElem?_eq_none (by simp [allL]; omega)]
    exact Int.le_refl _

theorem great_all {b : List Nat} {H : List Int} (h : Gre (headers b) allL H) : ∃ x y z : Int, H = [x, y, z, 0, 0, 0] ∧ 0 ≤ x ∧ 0 ≤ y ∧ 0 ≤ z ∧ x + y + z = ((headers b).length : Int) := by
  have hl := headers_lgood b
  have hg := headers_good b
  have hc : Cnt ((b.take 12).foldl hstep ⟨[], [zeros, zeros, zeros]⟩) := by
    have h0 : HGood ⟨[], [zeros, zeros, zeros]⟩ := headers_good []
    exact (cnt_fold (b.take 12) _ h0 (by unfold Cnt diag; rfl) (by simp; omega)).1
  have h12 := headers_fits b
  have hout : ((b.take 12).foldl hstep ⟨[], [zeros, zeros, zeros]⟩).out = headers b := rfl
  generalize (b.take 12).foldl hstep ⟨[], [zeros, zeros, zeros]⟩ = X at hg hc hout
  rw [← hout] at h hl h12 ⊢
  have hclo := clo_of_closed hl h.v h.cl
  have v6 := valid_len h.v
  have low : ∀ s, s < 3 → diag X.K s ≤ H.getD s 0 := by
    intro s hs
    obtain ⟨k1, g1, r1⟩ := hg.inv.get hs
    have hm : X.K[s] ∈ X.K := List.getElem_mem k1
    have hv := valid_row r1 (by omega)
    have := h.gr X.K[s] hv (closed_of_clo hl hv (hg.clo _ hm)) (le_all hv) s
    unfold diag
    rw [g1]; exact this
  have up : ∀ s, 1 ≤ H.getD s 0 → s < 3 ∧ H.getD s 0 ≤ diag X.K s := by
    intro s h1
    obtain ⟨c, hcm, e1, e2, _⟩ := hclo s _ h1 (Int.le_refl _)
    have g := hg.coms c hcm
    have ht := hg.top c hcm
    have h3 := g.s3
    rw [e1] at h3 ht
    rw [e2] at ht
    refine ⟨by omega, ?_⟩
    unfold diag
    simpa using ht
  have nn : ∀ s, 0 ≤ H.getD s 0 := fun s => ((valid_iff.1 h.v).2 s).1
  have dn : ∀ s, s < 3 → 0 ≤ diag X.K s := by
    intro s hs
    obtain ⟨k1, g1, r1⟩ := hg.inv.get hs
    unfold diag
    rw [g1]
    exact (r1.2 _ (getD_mem (by omega))).1
  have eq : ∀ s, s < 3 → H.getD s 0 = diag X.K s := by
    intro s hs
    have h1 := low s hs
    have h2 := nn s
    have h3 := dn s hs
    by_cases h4 : 1 ≤ H.getD s 0
    · have := (up s h4).2; omega
    · omega
  have z : ∀ s, 3 ≤ s → H.getD s 0 = 0 := by
    intro s hs
    have h2 := nn s
    by_cases h4 : 1 ≤ H.getD s 0
    · have := (up s h4).1; omega
    · omega
  unfold Cnt at hc
  rw [← eq 0 (by omega), ← eq 1 (by omega), ← eq 2 (by omega)] at hc
  have n0 := nn 0
  have n1 := nn 1
  have n2 := nn 2
  have z3 := z 3 (by omega)
  have z4 := z 4 (by omega)
  have z5 := z 5 (by omega)
  obtain ⟨a0, a1, a2, a3, a4, a5, rfl⟩ := six v6
  have e3 : a3 = 0 := z3
  have e4 : a4 = 0 := z4
  have e5 : a5 = 0 := z5
  exact ⟨a0, a1, a2, by rw [e3, e4, e5], n0, n1, n2, hc⟩

/-- the plain law of CutGreatest -/
structure Greatest (l : List Com) (lim : List Int) (n : Nat) (oth : List Int) (b : List Nat) : Prop where
  vlim : valid lim = true
  g : Gre l lim (reachF l 6000 lim)
  h : Gre l allL (reachF l 6000 allL)
  p : Gre (l.take n) lim (reachF (l.take n) 6000 lim)
  vo : valid oth = true
  co : closed l oth = true
  fit : ∀ c, reachF (shuffled l b) 6000 c = reachF l 6000 c
  has : ∀ c ∈ l, has (reachF l 6000 allL) c.nam = true
  cnt : sumW (reachF l 6000 allL) = (l.length : Int)
  len : l.length ≤ 12

theorem valid_allL : valid allL = true := by decide

theorem greatest_good (x : List Nat) (n : Nat) (k0 k1 k2 : List Nat) : Greatest (headers x) (limit k0) n (cutOfL (headers x) k1) k2 := by
  have hl := headers_lgood x
  have h12 := headers_fits x
  have vl := valid_limit k0
  obtain ⟨co, vo⟩ := cutOfL_closed (headers x) k1
  have H := reachF_gre (l := headers x) valid_allL
  refine ⟨vl, reachF_gre vl, H, reachF_gre vl, vo, co, fun c => reachF_congr (fun n => find_same hl (fun c => shuffled_mem c) n) _ c, fun c hc => ?_, ?_, h12⟩
  · have ge := hl.coms c hc
    have vow := own_valid ge
    rw [has_own hl H.v (clo_of_closed hl H.v H.cl) hc]
    exact H.gr _ vow (closed_of_clo hl vow (own_clo ge hc)) (le_all vow)
  · obtain ⟨a, b, c, e, h1, h2, h3, h4⟩ := great_all H
    rw [e, sumW_eq (by rfl) (by intro y hy; simp at hy; omega)]
    simp only [List.sum_cons, List.sum_nil]
    omega

abbrev grS (f0 f1 f2 : SlF) (k0 k1 k2 : List Nat) (g h p : List Int) : Sto := [.cells false [bytesV f0 k0, bytesV f1 k1, bytesV f2 k2], .cells false [ints .lst g, .int .i64 0], .cells false [ints .lst h, .int .i64 0], .cells false [ints .lst p, .int .i64 0]]

theorem gr_b1 {f0 f1 f2 : SlF} {k0 k1 k2 : List Nat} {l : List Com} {lim oth p : List Int} {n : Nat} (hf : Fits l) (P : Greatest l lim n oth k2) (h2 : Fits k2) (h28 : ∀ n ∈ k2, n < 256) : ∀ i, i ≤ l.length →
    Run T (Ret [.tmp 4] yes) (.inLoop l20_CutGreatest.b1 :: l20_CutGreatest.k1) (mkE 163 [(3, .ptr 0 3 0), (5, .bool true), (6, coms .lst l), (7, ints .lst lim), (9, .ptr 1 2 0), (10, .ptr 2 2 0), (13, .int .i64 l.length), (15, .int .i64 i)]) (grS f0 f1 f2 k0 k1 k2 (reachF l 6000 lim) (reachF l 6000 allL) p) := by
  have h12 := P.len
  have fs : Fits (shuffled l k2) := by
    unfold Fits shuffled
    simp only [List.length_append, List.length_take, shuf_len, List.length_nil]
    omega
  have fg := fits6 P.g.v
  have fh := fits6 P.h.v
  refine up_ind ?_ fun i hi ih => ?_
  · rw [run_round, run_unfold l20_CutGreatest.b1.eq_1]
    simp (maxSteps := 2000000) only [go_sem, ↓reduceIte, Nat.reduceLT, Nat.reduceEqDiff, Nat.reduceLeDiff, Nat.reduceAdd, Nat.reduceSub, Nat.reduceMul, Int.reduceLT, Int.reduceLE, Int.reduceEq, Int.reduceNeg, run_unfold l20_CutGreatest.c0.eq_1, run_unfold l20_CutGreatest.c1.eq_1, l20_CutGreatest.k0, l20_CutGreatest.k1, Nat.lt_irrefl, x_ia2, r20_Shuffled_call (f := .lst) (g := f2) hf (by omega) h2 h28, l20_greatest_call (f := .lst) (g := .lst) fs, greatestP, P.vlim, P.fit, x_eq, decide_true, Bool.and_self, fg, x_allc, x_allv, valid_allL, fh]
  · rw [run_round, run_unfold l20_CutGreatest.b1.eq_1]
    have hh : has (reachF l 6000 allL) ⟨l[i].st, l[i].seq⟩ = true := P.has _ (List.getElem_mem hi)
    simp (maxSteps := 2000000) only [go_sem, ↓reduceIte, Nat.reduceLT, Nat.reduceEqDiff, Nat.reduceLeDiff, Nat.reduceAdd, Nat.reduceSub, Nat.reduceMul, Int.reduceLT, Int.reduceLE, Int.reduceEq, Int.reduceNeg, hi, hf, hh, wrap_succ (show i < 9223372036854775807 by omega), run_unfold l20_CutGreatest.c0.eq_1, run_unfold l20_CutGreatest.c1.eq_1, l20_CutGreatest.k0, l20_CutGreatest.k1]
    exact ih

theorem gr_b0 {f0 f1 f2 : SlF} {k0 k1 k2 : List Nat} {l : List Com} {lim oth p : List Int} {n : Nat} (hf : Fits l) (P : Greatest l lim n oth k2) (h2 : Fits k2) (h28 : ∀ n ∈ k2, n < 256) : ∀ i, i ≤ 6 → ∀ m : Int, ((reachF l 6000 allL).drop i).foldl addW m = (l.length : Int) →
    Run T (Ret [.tmp 4] yes) (.inLoop l20_CutGreatest.b0 :: l20_CutGreatest.k0) (mkE 163 [(3, .ptr 0 3 0), (5, .bool true), (6, coms .lst l), (7, ints .lst lim), (9, .ptr 1 2 0), (10, .ptr 2 2 0), (13, .int .i64 m), (14, .int .i64 i)]) (grS f0 f1 f2 k0 k1 k2 (reachF l 6000 lim) (reachF l 6000 allL) p) := by
  have h6 := valid_len P.h.v
  refine up_ind ?_ fun i hi ih => ?_
  · intro m hm
    rw [run_round, run_unfold l20_CutGreatest.b0.eq_1]
    rw [List.drop_eq_nil_of_le (by omega)] at hm
    simp (maxSteps := 2000000) only [go_sem, ↓reduceIte, Nat.reduceLT, Nat.reduceEqDiff, Nat.reduceLeDiff, Nat.reduceAdd, Nat.reduceSub, Nat.reduceMul, Int.reduceLT, Int.reduceLE, Int.reduceEq, Int.reduceNeg, run_unfold l20_CutGreatest.c0.eq_1, run_unfold l20_CutGreatest.c1.eq_1, l20_CutGreatest.k0, l20_CutGreatest.k1, h6]
    rw [show m = (l.length : Int) from hm]
    exact gr_b1 hf P h2 h28 0 (by omega)
  · intro m hm
    rw [run_round, run_unfold l20_CutGreatest.b0.eq_1]
    have hi' : i < (reachF l 6000 allL).length := by omega
    rw [List.drop_eq_getElem_cons hi', List.foldl_cons] at hm
    simp (maxSteps := 2000000) only [go_sem, ↓reduceIte, Nat.reduceLT, Nat.reduceEqDiff, Nat.reduceLeDiff, Nat.reduceAdd, Nat.reduceSub, Nat.reduceMul, Int.reduceLT, Int.reduceLE, Int.reduceEq, Int.reduceNeg, h6, hi, show ((i : Int) < 6) by omega, wrap_succ (show i < 9223372036854775807 by omega), run_unfold l20_CutGreatest.c0.eq_1, run_unfold l20_CutGreatest.c1.eq_1, l20_CutGreatest.k0, l20_CutGreatest.k1]
    exact ih _ hm

theorem cutGreatest_true {f f0 f1 f2 : SlF} {x k0 k1 k2 : List Nat} (hb : Fits x) (hb8 : ∀ n ∈ x, n < 256) (h0 : Fits k0) (h1 : Fits k1) (h2 : Fits k2) (h28 : ∀ n ∈ k2, n < 256) : Cw T false i_l20_CutGreatest [bytesV f x, .agg [bytesV f0 k0, bytesV f1 k1, bytesV f2 k2]] [] [] yes := by
  have hf : Fits (headers x) := by have := headers_fits x; unfold Fits; omega
  obtain ⟨n, hn⟩ : ∃ n : Nat, n = (headers x).length - min (headers x).length (k2.length % 4) := ⟨_, rfl⟩
  have P := greatest_good x n k0 k1 k2
  generalize hL : headers x = l at hf P hn
  generalize hO : cutOfL l k1 = oth at P
  generalize hM : limit k0 = lim at P
  have h12 := P.len
  have fp : Fits (l.take n) := by unfold Fits; rw [List.length_take]; omega
  rw [cw_enter T_l20_CutGreatest (by simp), run_unfold l20_CutGreatest.main.eq_1]
  simp (maxSteps := 2000000) only [go_sem, ↓reduceIte, Nat.reduceLT, Nat.reduceEqDiff, Nat.reduceLeDiff, Nat.reduceAdd, Nat.reduceSub, Nat.reduceMul, Int.reduceLT, Int.reduceLE, Int.reduceEq, Int.reduceNeg, r20_Headers_call (f := f) hb hb8, hL, h0, x_ia0, x_ia1, x_ia2, hM]
  have e0 : Int.tmod (k2.length : Int) 4 = ((k2.length % 4 : Nat) : Int) := rfl
  have e1 : IntKind.i64.wrap ((l.length : Int) - if Int.tmod (k2.length : Int) 4 < (l.length : Int) then Int.tmod (k2.length : Int) 4 else (l.length : Int)) = (n : Int) := by
    rw [e0]
    have : (k2.length % 4 : Nat) < 4 := Nat.mod_lt _ (by omega)
    have e2 : ((l.length : Int) - if ((k2.length % 4 : Nat) : Int) < (l.length : Int) then ((k2.length % 4 : Nat) : Int) else (l.length : Int)) = (n : Int) := by
      split <;> omega
    rw [e2, wrap_i64 (by omega) (by omega)]
  rw [e1]
  refine after_of (v := coms .lst (l.take n)) (slice_sv_take (by omega)) ?_
  have q1 := closedP_of P.g.cl
  have q2 := leq_of_le P.g.v P.vlim P.g.lo
  have q3 := leq_of_le P.p.v P.g.v (P.g.gr _ P.p.v (closed_take P.p.v P.p.cl) P.p.lo)
  have q4 := leq_of_le P.g.v P.h.v (P.h.gr _ P.g.v P.g.cl (le_all P.g.v))
  have q5 := closedP_of P.co
  have q6 : leq oth lim = true → leq oth (reachF l 6000 lim) = true := fun h => leq_of_le P.vo P.g.v (P.g.gr _ P.vo P.co ((leq_iff P.vo P.vlim).1 h))
  cases h3 : leq oth lim
  · simp (maxSteps := 2000000) only [go_sem, ↓reduceIte, Nat.reduceLT, Nat.reduceEqDiff, Nat.reduceLeDiff, Nat.reduceAdd, Nat.reduceSub, Nat.reduceMul, Int.reduceLT, Int.reduceLE, Int.reduceEq, Int.reduceNeg, l20_greatest_call (f := .lst) (g := .lst) hf, l20_greatest_call (f := .lst) (g := .lst) fp, greatestP, P.vlim, x_allc, x_allv, valid_allL, hf, q1, q2, q3, q4, q5, h3, x_ia0, x_ia1, x_ia2, r20_CutOf_call (f := .lst) (g := f1) hf h1, hO]
    exact gr_b0 hf P h2 h28 0 (by omega) 0 P.cnt
  · simp (maxSteps := 2000000) only [go_sem, ↓reduceIte, Nat.reduceLT, Nat.reduceEqDiff, Nat.reduceLeDiff, Nat.reduceAdd, Nat.reduceSub, Nat.reduceMul, Int.reduceLT, Int.reduceLE, Int.reduceEq, Int.reduceNeg, l20_greatest_call (f := .lst) (g := .lst) hf, l20_greatest_call (f := .lst) (g := .lst) fp, greatestP, P.vlim, x_allc, x_allv, valid_allL, hf, q1, q2, q3, q4, q5, h3, q6 h3, x_ia0, x_ia1, x_ia2, r20_CutOf_call (f := .lst) (g := f1) hf h1, hO]
    exact gr_b0 hf P h2 h28 0 (by omega) 0 P.cnt

end Go.Abs
/- Plain laws of chapter 20: the fixed order. -/
set_option linter.unusedSimpArgs false
set_option linter.unusedVariables false
set_option maxRecDepth 100000
set_option maxHeartbeats 4000000
namespace Go.Abs
open Go

def comAt (l : List Com) (x : Int) : Com := l.getD x.toNat (mkCom 0 0 [])
theorem comAt_get {l : List Com} {i : Nat} (h : i < l.length) : comAt l (i : Int) = l[i] := by
  unfold comAt
  rw [Int.toNat_natCast, List.getD_eq_getElem?_getD, List.getElem?_eq_getElem h]; rfl
theorem comAt_mem {l : List Com} {x : Int} (h : isIx l x) : comAt l x ∈ l := by
  obtain ⟨i, rfl, hi⟩ := h
  rw [comAt_get hi]; exact List.getElem_mem hi

/-- a list whose commits are those of a good list -/
structure Alike (l l' : List Com) : Prop where
  good : LGood l
  mem : ∀ c, c ∈ l' ↔ c ∈ l

theorem ix_ok {l l' : List Com} (h : Alike l l') {c : List Int} (hc : Clo l c) {s q : Nat} (h1 : 1 ≤ q) (h2 : (q : Int) ≤ c.getD s 0) :
    isIx l' (ix l' s q) ∧ (comAt l' (ix l' s q)).st = (s : Int) ∧ (comAt l' (ix l' s q)).seq = (q : Int) ∧ le (own (comAt l' (ix l' s q))) c := by
  obtain ⟨e, he, e1, e2, e3⟩ := hc s q (by omega) h2
  have he' := (h.mem e).2 he
  rcases nmap_cases l' ⟨(s : Int), (q : Int)⟩ with ⟨_, hn⟩ | ⟨j, hj, g1, g2⟩
  · rw [List.find?_eq_none] at hn
    exact absurd (isN_iff.2 ⟨e1, e2⟩) (hn e he')
  · have hx := isN_iff.1 (List.find?_some g2)
    have hm := (h.mem _).1 (List.getElem_mem hj)
    have : l'[j] = e := nd_eq h.good.nd hm he (hx.1.trans e1.symm) (hx.2.trans e2.symm)
    unfold ix
    rw [g1]
    refine ⟨⟨j, rfl, hj⟩, ?_⟩
    rw [comAt_get hj, this]
    exact ⟨e1, e2, e3⟩

theorem seg_mem {l : List Com} {s : Nat} {x : Int} : ∀ d q, x ∈ seg l s q d ↔ ∃ p, q < p ∧ p ≤ q + d ∧ x = ix l s p
  | 0, q => by simp [seg]; intro p h1 h2; omega
  | d + 1, q => by
    rw [seg, List.mem_cons, seg_mem d (q + 1)]
    constructor
    · rintro (h | ⟨p, h1, h2, h3⟩)
      · exact ⟨q + 1, by omega, by omega, h⟩
      · exact ⟨p, by omega, by omega, h3⟩
    · rintro ⟨p, h1, h2, h3⟩
      by_cases e : p = q + 1
      · left; rw [h3, e]
      · exact .inr ⟨p, by omega, by omega, h3⟩
theorem rows_mem {l : List Com} {c : List Int} {x : Int} : ∀ d s, x ∈ rows l c s d ↔ ∃ t p : Nat, s ≤ t ∧ t < s + d ∧ 1 ≤ p ∧ p ≤ (c.getD t 0).toNat ∧ x = ix l t p
  | 0, s => by simp [rows]; intro t h1 h2; omega
  | d + 1, s => by
    rw [rows, List.mem_append, seg_mem, rows_mem d (s + 1)]
    constructor
    · rintro (⟨p, h1, h2, h3⟩ | ⟨t, p, h1, h2, h3⟩)
      · exact ⟨s, p, by omega, by omega, by omega, by omega, h3⟩
      · exact ⟨t, p, by omega, by omega, h3⟩
    · rintro ⟨t, p, h1, h2, h3, h4, h5⟩
      by_cases e : t = s
      · subst e; exact .inl ⟨p, by omega, by omega, h5⟩
      · exact .inr ⟨t, p, by omega, by omega, h3, h4, h5⟩
theorem rows_len {l : List Com} {c : List Int} : ∀ d s, s + d = c.length → (rows l c s d).length = total (c.drop s)
  | 0, s, h => by rw [List.drop_of_length_le (by omega)]; rfl
  | d + 1, s, h => by
    rw [rows, List.length_append, seg_len, rows_len d (s + 1) (by omega), List.drop_eq_getElem_cons (show s < c.length by omega)]
    have : c.getD s 0 = c[s]'(by omega) := by rw [List.getD_eq_getElem?_getD, List.getElem?_eq_getElem (by omega)]; rfl
    rw [this]
    simp only [total, List.map_cons, List.sum_cons]

theorem seg_pw {l l' : List Com} (h : Alike l l') {c : List Int} (hc : Clo l c) {s : Nat} : ∀ d q, ((q + d : Nat) : Int) ≤ c.getD s 0 → (seg l' s q d).Pairwise (fun a b => comAt l' a ≠ comAt l' b)
  | 0, q, _ => List.Pairwise.nil
  | d + 1, q, hq => by
    rw [seg, List.pairwise_cons]
    refine ⟨fun x hx e => ?_, seg_pw h hc d (q + 1) (by omega)⟩
    obtain ⟨p, h1, h2, rfl⟩ := (seg_mem d (q + 1)).1 hx
    have g1 := (ix_ok h hc (s := s) (q := q + 1) (by omega) (by omega)).2.2.1
    have g2 := (ix_ok h hc (s := s) (q := p) (by omega) (by omega)).2.2.1
    rw [e, g2] at g1
    omega
theorem rows_pw {l l' : List Com} (h : Alike l l') {c : List Int} (hv : valid c = true) (hc : Clo l c) : ∀ d s, (rows l' c s d).Pairwise (fun a b => comAt l' a ≠ comAt l' b)
  | 0, s => List.Pairwise.nil
  | d + 1, s => by
    have nn := ((valid_iff.1 hv).2 s).1
    rw [rows, List.pairwise_append]
    refine ⟨seg_pw h hc _ 0 (by omega), rows_pw h hv hc d (s + 1), fun x hx y hy e => ?_⟩
    obtain ⟨p, h1, h2, rfl⟩ := (seg_mem _ 0).1 hx
    obtain ⟨t, r, k1, k2, k3, k4, rfl⟩ := (rows_mem d (s + 1)).1 hy
    have g1 := (ix_ok h hc (s := s) (q := p) (by omega) (by omega)).2.1
    have g2 := (ix_ok h hc (s := t) (q := r) (by omega) (by omega)).2.1
    rw [e, g2] at g1
    omega

/-! ### The order of commits -/
theorem cmp_ord {l : List Com} (hl : LGood l) : Ord3 (fun a b : Com => decide (cmpC a b < 0)) (fun c => c ∈ l) where
  asym a b ha hb h := by
    rw [cmpC_lt] at h ⊢
    repeat' split at h
    all_goals (repeat' split)
    all_goals simp only [decide_eq_true_eq, decide_eq_false_iff_not] at *
    all_goals omega
  trans a b c ha hb hc h1 h2 := by
    rw [cmpC_lt] at h1 h2 ⊢
    repeat' split at h1
    all_goals (repeat' split at h2)
    all_goals (repeat' split)
    all_goals simp only [decide_eq_true_eq, decide_eq_false_iff_not] at *
    all_goals omega
theorem cmp_total {l : List Com} (hl : LGood l) {a b : Com} (ha : a ∈ l) (hb : b ∈ l) (h : ¬ cmpC b a < 0) (hne : a ≠ b) : cmpC a b < 0 := by
  have hnm : ¬ (a.st = b.st ∧ a.seq = b.seq) := fun e => hne (nd_eq hl.nd ha hb e.1 e.2)
  have h1 := before_not hl ha hb hnm
  rw [before_iff hl hb ha, before_iff hl ha hb] at h1
  by_cases h2 : cmpC a b < 0
  · exact h2
  · simp [h, h2] at h1

/-- the commits of a closed cut in the fixed order -/
def orderC (l : List Com) (c : List Int) : List Com := (isort (ixR l) (rows l c 0 6)).map (comAt l)

structure OrdOk (l : List Com) (c : List Int) (cs : List Com) : Prop where
  mem : ∀ e, e ∈ cs ↔ e ∈ l ∧ has c e.nam = true
  srt : cs.Pairwise (fun a b => decide (cmpC a b < 0) = true)

theorem order_ok {l l' : List Com} (h : Alike l l') {c : List Int} (hv : valid c = true) (hc : Clo l c) : (∀ x ∈ rows l' c 0 6, isIx l' x) ∧ OrdOk l c (orderC l' c) := by
  have h6 := valid_len hv
  have hix : ∀ x ∈ rows l' c 0 6, isIx l' x := by
    intro x hx
    obtain ⟨t, p, k1, k2, k3, k4, rfl⟩ := (rows_mem 6 0).1 hx
    have := ((valid_iff.1 hv).2 t).1
    exact (ix_ok h hc k3 (by omega)).1
  have hin : ∀ x, isIx l' x → comAt l' x ∈ l := fun x hx => (h.mem _).1 (comAt_mem hx)
  have ord : Ord3 (ixR l') (isIx l') := by
    have o := cmp_ord h.good
    exact ⟨fun a b ha hb => o.asym _ _ (hin a ha) (hin b hb), fun a b c ha hb hc => o.trans _ _ _ (hin a ha) (hin b hb) (hin c hc)⟩
  refine ⟨hix, fun e => ?_, ?_⟩
  · unfold orderC
    rw [List.mem_map]
    constructor
    · rintro ⟨x, hx, rfl⟩
      rw [isort_mem] at hx
      have hm := hin x (hix x hx)
      obtain ⟨t, p, k1, k2, k3, k4, rfl⟩ := (rows_mem 6 0).1 hx
      have := ((valid_iff.1 hv).2 t).1
      exact ⟨hm, (has_own h.good hv hc hm).2 (ix_ok h hc k3 (by omega)).2.2.2⟩
    · rintro ⟨he, hh⟩
      have ge := h.good.coms e he
      have hle := (has_iff h.good hv he).1 hh
      have hs := ge.seq
      have hp := ge.pst
      have hst := ge.st6
      have h0 := ge.s0
      have hcast : ((e.seq.toNat : Nat) : Int) = e.seq := by omega
      have := ix_ok h hc (s := e.st.toNat) (q := e.seq.toNat) (by omega) (by omega)
      refine ⟨ix l' e.st.toNat e.seq.toNat, ?_, ?_⟩
      · rw [isort_mem]
        exact (rows_mem 6 0).2 ⟨e.st.toNat, e.seq.toNat, by omega, by omega, by omega, by omega, rfl⟩
      · exact nd_eq h.good.nd (hin _ this.1) he (by rw [this.2.1]; omega) (by rw [this.2.2.1]; exact hcast)
  · unfold orderC
    rw [List.pairwise_map]
    have s1 := isort_sorted ord hix
    have s2 := ((isort_perm (ixR l') (rows l' c 0 6)).pairwise_iff (R := fun a b => comAt l' a ≠ comAt l' b) (fun h e => h e.symm)).2 (rows_pw h hv hc 6 0)
    refine (s1.and s2).imp_of_mem fun {a b} ha hb hab => ?_
    rw [isort_mem] at ha hb
    have := cmp_total h.good (hin a (hix a ha)) (hin b (hix b hb)) (by
      have := hab.1
      exact of_decide_eq_false this) hab.2
    simpa using this

theorem ord_unique {l : List Com} (hl : LGood l) {c c' : List Int} {cs cs' : List Com} (h : OrdOk l c cs) (h' : OrdOk l c' cs') (e : ∀ x ∈ l, has c x.nam = has c' x.nam) : cs = cs' := by
  refine strict_unique (p := fun c => c ∈ l) (cmp_ord hl).asym (fun x hx => ((h.mem x).1 hx).1) (fun x => ?_) h.srt h'.srt
  rw [h.mem, h'.mem]
  constructor
  · rintro ⟨a, b⟩; exact ⟨a, by rw [← e x a]; exact b⟩
  · rintro ⟨a, b⟩; exact ⟨a, by rw [e x a]; exact b⟩

theorem ord_filter {l : List Com} (hl : LGood l) {a c : List Int} (va : valid a = true) (vc : valid c = true) (hle : le a c) {cs cs' : List Com} (h : OrdOk l c cs) (h' : OrdOk l a cs') : cs' = cs.filter fun e => has a e.nam := by
  refine strict_unique (p := fun c => c ∈ l) (cmp_ord hl).asym (fun x hx => ((h'.mem x).1 hx).1) (fun x => ?_) h'.srt (h.srt.filter _)
  rw [h'.mem, List.mem_filter, h.mem]
  constructor
  · rintro ⟨g1, g2⟩
    refine ⟨⟨g1, ?_⟩, g2⟩
    rw [has_iff hl vc g1]
    exact Int.le_trans ((has_iff hl va g1).1 g2) (hle _)
  · rintro ⟨⟨g1, _⟩, g3⟩
    exact ⟨g1, g3⟩

/-- a closed cut of the reference's lists has at most twelve commits -/
theorem total_small {x : List Nat} {c : List Int} (hv : valid c = true) (hc : closed (headers x) c = true) : total c ≤ 12 ∧ ∀ y ∈ c, 0 ≤ y ∧ y ≤ 12 := by
  have H := reachF_gre (l := headers x) valid_allL
  have h12 := headers_fits x
  obtain ⟨p, q, r, e, h1, h2, h3, h4⟩ := great_all H
  have hle := H.gr c hv hc (le_all hv)
  have nn := (valid_iff.1 hv).2
  rw [e] at hle
  obtain ⟨c0, c1, c2, c3, c4, c5, rfl⟩ := six (valid_len hv)
  have l0 : c0 ≤ p := hle 0
  have l1 : c1 ≤ q := hle 1
  have l2 : c2 ≤ r := hle 2
  have l3 : c3 ≤ 0 := hle 3
  have l4 : c4 ≤ 0 := hle 4
  have l5 : c5 ≤ 0 := hle 5
  have n0 := (nn 0).1
  have n1 := (nn 1).1
  have n2 := (nn 2).1
  have n3 := (nn 3).1
  have n4 := (nn 4).1
  have n5 := (nn 5).1
  simp at n0 n1 n2 n3 n4 n5
  constructor
  · simp only [total, List.map_cons, List.map_nil, List.sum_cons, List.sum_nil]; omega
  · intro y hy
    simp at hy
    omega

end Go.Abs
/- The walk of CutOrder. -/
set_option linter.unusedSimpArgs false
set_option linter.unusedVariables false
set_option maxRecDepth 100000
set_option maxHeartbeats 4000000
namespace Go.Abs
open Go

def namAt (l : List Com) (x : Int) : Nam := (comAt l x).nam

theorem r20_Names_loop {f g : SlF} {l : List Com} {D : List Int} (hD : ∀ x ∈ D, isIx l x) (hn : D.length < 1000) : ∀ i, i ≤ D.length → ∀ out : List Nam, out.length = i →
    Run T (Res [.tmp 4] (noms .lst (out ++ (D.drop i).map (namAt l)))) (.inLoop r20_Names.b0 :: r20_Names.k0) (mkE 26 [(0, coms f l), (1, ints g D), (5, .ref 0 (out.length * 2) 0 out.length 2), (6, .int .i64 i)]) [.cells false (out.flatMap cellsN)] := by
  have one2 : ∀ y : Nam, (cellsN y).all AVal.one = true := fun _ => rfl
  refine up_ind ?_ fun i hi ih => ?_
  · intro out ho
    rw [run_round, run_unfold r20_Names.b0.eq_1]
    rw [List.drop_length, List.map_nil, List.append_nil]
    simp (maxSteps := 2000000) only [go_sem, ↓reduceIte, Nat.reduceLT, Nat.reduceEqDiff, Nat.reduceLeDiff, Nat.reduceAdd, Nat.reduceSub, Nat.reduceMul, Int.reduceLT, Int.reduceLE, Int.reduceEq, Int.reduceNeg, run_unfold r20_Names.c0.eq_1, run_unfold r20_Names.c1.eq_1, r20_Names.k0, Nat.lt_irrefl]
    exact snap_noms (n := 62) (by rfl)
  · intro out ho
    rw [run_round, run_unfold r20_Names.b0.eq_1]
    rw [List.drop_eq_getElem_cons hi, List.map_cons]
    obtain ⟨k, e, hk⟩ := hD D[i] (List.getElem_mem hi)
    have en : namAt l D[i] = l[k].nam := by unfold namAt; rw [e, comAt_get hk]
    simp (maxSteps := 2000000) only [go_sem, ↓reduceIte, Nat.reduceLT, Nat.reduceEqDiff, Nat.reduceLeDiff, Nat.reduceAdd, Nat.reduceSub, Nat.reduceMul, Int.reduceLT, Int.reduceLE, Int.reduceEq, Int.reduceNeg, hi, e, hk]
    refine after_of (appendV_struct (X := out) (y := l[k].nam) (by decide) cellsN_len one2 (by rfl) (by rfl) (by unfold maxBytes; omega)) ?_
    simp (maxSteps := 2000000) only [go_sem, ↓reduceIte, Nat.reduceLT, Nat.reduceEqDiff, Nat.reduceLeDiff, Nat.reduceAdd, Nat.reduceSub, Nat.reduceMul, Int.reduceLT, Int.reduceLE, Int.reduceEq, Int.reduceNeg, names_noms, run_unfold r20_Names.c0.eq_1, run_unfold r20_Names.c1.eq_1, r20_Names.k0, wrap_succ (show i < 9223372036854775807 by omega)]
    have := ih (out ++ [l[k].nam]) (by simp [ho])
    rw [List.append_assoc, List.singleton_append] at this
    rw [← e, en]
    exact this

theorem r20_Names_spec {f g : SlF} {l : List Com} {D : List Int} (hD : ∀ x ∈ D, isIx l x) (hn : D.length < 1000) {lv : List Nat} {σ : Sto} {R : Post} : Cw T true i_r20_Names [coms f l, ints g D] lv σ R ↔ R (noms .lst (D.map (namAt l))) σ := by
  refine cw_intro T_r20_Names (by simp only [go_sem]) (by simp) ?_; rw [run_unfold r20_Names.main.eq_1]
  simp (maxSteps := 2000000) only [go_sem, ↓reduceIte, Nat.reduceLT, Nat.reduceEqDiff, Nat.reduceLeDiff, Nat.reduceAdd, Nat.reduceSub, Nat.reduceMul, Int.reduceLT, Int.reduceLE, Int.reduceEq, Int.reduceNeg]
  exact r20_Names_loop hD hn 0 (by omega) [] rfl
@[go_sem] theorem r20_Names_call {f g : SlF} {l : List Com} {D : List Int} (hD : ∀ x ∈ D, isIx l x) (hn : D.length < 1000) {Q : Post3} {k : List Item} {os : List AOper} {d : Option Nat} {e : Env} {σ : Sto} : CallK T Q k os d e σ true i_r20_Names [coms f l, ints g D] ↔ Run T Q (.ops os :: k) (put e d (noms .lst (D.map (namAt l)))) σ := r20_Names_spec hD hn


theorem nam_eq {a b : Nam} : decide (a = b) = (decide (a.st = b.st) && decide (a.seq = b.seq)) := by
  cases a; cases b; simp only [Nam.mk.injEq]; exact Bool.decide_and ..
theorem r20_SameNames_loop {f g : SlF} {a b : List Nam} (ha : Fits a) (hb : b.length = a.length) : ∀ i, i ≤ a.length →
    Run T (Res [.tmp 4] (.bool (decide (a.drop i = b.drop i)))) (.inLoop r20_SameNames.b0 :: r20_SameNames.k0) (mkE 26 [(0, noms f a), (1, noms g b), (5, .int .i64 i)]) [] := by
  refine up_ind ?_ fun i hi ih => ?_
  · rw [run_round, run_unfold r20_SameNames.b0.eq_1]
    simp (maxSteps := 2000000) only [go_sem, ↓reduceIte, Nat.reduceLT, Nat.reduceEqDiff, Nat.reduceLeDiff, Nat.reduceAdd, Nat.reduceSub, Nat.reduceMul, Int.reduceLT, Int.reduceLE, Int.reduceEq, Int.reduceNeg, run_unfold r20_SameNames.c0.eq_1, run_unfold r20_SameNames.c1.eq_1, r20_SameNames.k0, Nat.lt_irrefl, List.drop_length, show b.drop a.length = [] by rw [← hb]; exact List.drop_length]
  · rw [run_round, run_unfold r20_SameNames.b0.eq_1]
    have h2 : i < b.length := by omega
    rw [List.drop_eq_getElem_cons hi, List.drop_eq_getElem_cons h2]
    simp (maxSteps := 2000000) only [go_sem, ↓reduceIte, Nat.reduceLT, Nat.reduceEqDiff, Nat.reduceLeDiff, Nat.reduceAdd, Nat.reduceSub, Nat.reduceMul, Int.reduceLT, Int.reduceLE, Int.reduceEq, Int.reduceNeg, hi, h2, List.cons.injEq, ← nam_eq]
    by_cases h : a[i] = b[i]
    · simp (maxSteps := 2000000) only [go_sem, ↓reduceIte, Nat.reduceLT, Nat.reduceEqDiff, Nat.reduceLeDiff, Nat.reduceAdd, Nat.reduceSub, Nat.reduceMul, Int.reduceLT, Int.reduceLE, Int.reduceEq, Int.reduceNeg, h, wrap_succ (show i < 9223372036854775807 by omega), decide_true, Bool.not_true]
      exact ih
    · simp (maxSteps := 2000000) only [go_sem, ↓reduceIte, Nat.reduceLT, Nat.reduceEqDiff, Nat.reduceLeDiff, Nat.reduceAdd, Nat.reduceSub, Nat.reduceMul, Int.reduceLT, Int.reduceLE, Int.reduceEq, Int.reduceNeg, h]

theorem r20_SameNames_spec {f g : SlF} {a b : List Nam} (ha : Fits a) {lv : List Nat} {σ : Sto} {R : Post} : Cw T true i_r20_SameNames [noms f a, noms g b] lv σ R ↔ R (.bool (decide (a = b))) σ := by
  refine cw_intro T_r20_SameNames (by simp only [go_sem]) (by simp) ?_; rw [run_unfold r20_SameNames.main.eq_1]
  simp (maxSteps := 2000000) only [go_sem, ↓reduceIte, Nat.reduceLT, Nat.reduceEqDiff, Nat.reduceLeDiff, Nat.reduceAdd, Nat.reduceSub, Nat.reduceMul, Int.reduceLT, Int.reduceLE, Int.reduceEq, Int.reduceNeg]
  by_cases h : a.length = b.length
  · simp (maxSteps := 2000000) only [go_sem, ↓reduceIte, Nat.reduceLT, Nat.reduceEqDiff, Nat.reduceLeDiff, Nat.reduceAdd, Nat.reduceSub, Nat.reduceMul, Int.reduceLT, Int.reduceLE, Int.reduceEq, Int.reduceNeg, h]
    exact r20_SameNames_loop ha h.symm 0 (by omega)
  · have h' : ¬ a = b := fun e => h (by rw [e])
    have h2 : ¬ ((a.length : Int) = (b.length : Int)) := by omega
    simp (maxSteps := 2000000) only [go_sem, ↓reduceIte, Nat.reduceLT, Nat.reduceEqDiff, Nat.reduceLeDiff, Nat.reduceAdd, Nat.reduceSub, Nat.reduceMul, Int.reduceLT, Int.reduceLE, Int.reduceEq, Int.reduceNeg, h2, h']
@[go_sem] theorem r20_SameNames_call {f g : SlF} {a b : List Nam} (ha : Fits a) {Q : Post3} {k : List Item} {os : List AOper} {d : Option Nat} {e : Env} {σ : Sto} : CallK T Q k os d e σ true i_r20_SameNames [noms f a, noms g b] ↔ Run T Q (.ops os :: k) (put e d (.bool (decide (a = b)))) σ := r20_SameNames_spec ha


theorem l20_fits_loop {f g : SlF} {l : List Com} {D : List Int} (hD : ∀ x ∈ D, isIx l x) (hn : D.length < 1000) : ∀ i, i ≤ D.length →
    Run T (Res [.tmp 4] (.bool true)) (.inLoop l20_fits.b0 :: l20_fits.k0) (mkE 26 [(0, coms f l), (1, ints g D), (5, .int .i64 i)]) [] := by
  refine up_ind ?_ fun i hi ih => ?_
  · rw [run_round, run_unfold l20_fits.b0.eq_1]
    simp (maxSteps := 2000000) only [go_sem, ↓reduceIte, Nat.reduceLT, Nat.reduceEqDiff, Nat.reduceLeDiff, Nat.reduceAdd, Nat.reduceSub, Nat.reduceMul, Int.reduceLT, Int.reduceLE, Int.reduceEq, Int.reduceNeg, run_unfold l20_fits.c0.eq_1, l20_fits.k0, Nat.lt_irrefl]
  · rw [run_round, run_unfold l20_fits.b0.eq_1]
    obtain ⟨k, e, hk⟩ := hD D[i] (List.getElem_mem hi)
    simp (maxSteps := 2000000) only [go_sem, ↓reduceIte, Nat.reduceLT, Nat.reduceEqDiff, Nat.reduceLeDiff, Nat.reduceAdd, Nat.reduceSub, Nat.reduceMul, Int.reduceLT, Int.reduceLE, Int.reduceEq, Int.reduceNeg, hi, e, hk, run_unfold l20_fits.c0.eq_1, l20_fits.k0, show ¬ ((k : Int) < 0) by omega, show ¬ ((l.length : Int) ≤ (k : Int)) by omega, wrap_succ (show i < 9223372036854775807 by omega)]
    exact ih

theorem l20_fits_spec {f g : SlF} {l : List Com} {D : List Int} (hD : ∀ x ∈ D, isIx l x) (hn : D.length < 1000) {lv : List Nat} {σ : Sto} {R : Post} : Cw T true i_l20_fits [coms f l, ints g D] lv σ R ↔ R (.bool true) σ := by
  refine cw_intro T_l20_fits (by simp only [go_sem]) (by simp) ?_; rw [run_unfold l20_fits.main.eq_1]
  simp (maxSteps := 2000000) only [go_sem, ↓reduceIte, Nat.reduceLT, Nat.reduceEqDiff, Nat.reduceLeDiff, Nat.reduceAdd, Nat.reduceSub, Nat.reduceMul, Int.reduceLT, Int.reduceLE, Int.reduceEq, Int.reduceNeg]
  exact l20_fits_loop hD hn 0 (by omega)
@[go_sem] theorem l20_fits_call {f g : SlF} {l : List Com} {D : List Int} (hD : ∀ x ∈ D, isIx l x) (hn : D.length < 1000) {Q : Post3} {k : List Item} {os : List AOper} {d : Option Nat} {e : Env} {σ : Sto} : CallK T Q k os d e σ true i_l20_fits [coms f l, ints g D] ↔ Run T Q (.ops os :: k) (put e d (.bool true)) σ := l20_fits_spec hD hn


theorem l20_order_spec {f g : SlF} {l : List Com} {c : List Int} (hl : Fits l) (hv : valid c = true) (hcl : closedP l c = true) (hp : ∀ x ∈ l, Fits x.past) (h12 : (rows l c 0 6).length ≤ 12) (hix : ∀ x ∈ rows l c 0 6, isIx l x) {lv : List Nat} {σ : Sto} {R : Post} :
    Cw T true i_l20_order [coms f l, ints g c] lv σ R ↔ R (.agg [ints .nil (isort (ixR l) (rows l c 0 6)), .int .i64 0]) σ := by
  refine cw_intro T_l20_order (by simp only [go_sem]) (by simp) ?_; rw [run_unfold l20_order.main.eq_1]
  simp (maxSteps := 2000000) only [go_sem, ↓reduceIte, Nat.reduceLT, Nat.reduceEqDiff, Nat.reduceLeDiff, Nat.reduceAdd, Nat.reduceSub, Nat.reduceMul, Int.reduceLT, Int.reduceLE, Int.reduceEq, Int.reduceNeg, callK_of (cut_Order_spec hl hv hcl hp h12 hix)]

/-- the plain law of CutOrder -/
structure OrderL (l mv : List Com) (a u : List Int) (O P M : List Int) : Prop where
  ixO : ∀ x ∈ O, isIx l x
  ixP : ∀ x ∈ P, isIx l x
  ixM : ∀ x ∈ M, isIx mv x
  lO : O.length ≤ 12
  lP : P.length ≤ 12
  lM : M.length ≤ 12
  va : valid a = true
  vu : valid u = true
  has : ∀ x ∈ O, has u (namAt l x) = true
  irr : ∀ x ∈ O, sees (comAt l x) (comAt l x) = false
  pw : O.Pairwise fun x y => sees (comAt l x) (comAt l y) = false ∧ namAt l y ≠ namAt l x ∧ befC (comAt l x) (comAt l y) = true
  names : P.map (namAt l) = (O.filter fun x => Go.Abs.has a (namAt l x)).map (namAt l)
  moved : M.map (namAt mv) = O.map (namAt l)
  cnt : sumW u = (O.length : Int)

theorem orderL_good {x : List Nat} {a u : List Int} {b : List Nat} (va : valid a = true) (ca : closed (headers x) a = true) (vu : valid u = true) (cu : closed (headers x) u = true) (hle : le a u) :
    OrderL (headers x) (shuffled (headers x) b) a u (isort (ixR (headers x)) (rows (headers x) u 0 6)) (isort (ixR (headers x)) (rows (headers x) a 0 6)) (isort (ixR (shuffled (headers x) b)) (rows (shuffled (headers x) b) u 0 6)) := by
  have hl := headers_lgood x
  have A : Alike (headers x) (headers x) := ⟨hl, fun _ => Iff.rfl⟩
  have B : Alike (headers x) (shuffled (headers x) b) := ⟨hl, fun c => shuffled_mem c⟩
  have clu := clo_of_closed hl vu cu
  have cla := clo_of_closed hl va ca
  have tu := total_small vu cu
  have ta := total_small va ca
  have hC := causal_good hl
  have su : sumW u = ((rows (headers x) u 0 6).length : Int) := by
    rw [rows_len 6 0 (valid_len vu).symm, sumW_eq (valid_len vu) tu.2]
    obtain ⟨c0, c1, c2, c3, c4, c5, rfl⟩ := six (valid_len vu)
    have h0 := tu.2 c0 (by simp); have h1 := tu.2 c1 (by simp); have h2 := tu.2 c2 (by simp)
    have h3 := tu.2 c3 (by simp); have h4 := tu.2 c4 (by simp); have h5 := tu.2 c5 (by simp)
    simp only [List.drop_zero, total, List.map_cons, List.map_nil, List.sum_cons, List.sum_nil]
    omega
  have lu : ∀ l', (rows l' u 0 6).length ≤ 12 := fun l' => by rw [rows_len 6 0 (valid_len vu).symm]; exact tu.1
  have la : ∀ l', (rows l' a 0 6).length ≤ 12 := fun l' => by rw [rows_len 6 0 (valid_len va).symm]; exact ta.1
  obtain ⟨i1, o1⟩ := order_ok A vu clu
  obtain ⟨i2, o2⟩ := order_ok A va cla
  obtain ⟨i3, o3⟩ := order_ok B vu clu
  have f1 := ord_filter hl va vu hle o1 o2
  have f2 := ord_unique hl o3 o1 fun _ _ => rfl
  have hm : ∀ y ∈ isort (ixR (headers x)) (rows (headers x) u 0 6), comAt (headers x) y ∈ headers x := fun y hy => comAt_mem (i1 y ((isort_mem _).1 hy))
  refine ⟨fun y hy => i1 y ((isort_mem _).1 hy), fun y hy => i2 y ((isort_mem _).1 hy), fun y hy => i3 y ((isort_mem _).1 hy), by rw [isort_len]; exact lu _, by rw [isort_len]; exact la _, by rw [isort_len]; exact lu _, va, vu, fun y hy => ?_, fun y hy => ?_, ?_, ?_, ?_, by rw [isort_len]; exact su⟩
  · exact ((o1.mem _).1 (List.mem_map_of_mem hy)).2
  · obtain ⟨i, hi, e⟩ := List.getElem_of_mem (hm y hy)
    rw [← e]; exact hC.irr i hi
  · have := o1.srt
    unfold orderC at this
    rw [List.pairwise_map] at this
    refine this.imp_of_mem fun {y z} hy hz h => ?_
    have h : cmpC (comAt (headers x) y) (comAt (headers x) z) < 0 := of_decide_eq_true h
    have my := hm y hy
    have mz := hm z hz
    have hb : befC (comAt (headers x) y) (comAt (headers x) z) = true := by rw [before_iff hl my mz]; exact decide_eq_true h
    have has := (cmp_ord hl).asym _ _ my mz (decide_eq_true h)
    have hb' : befC (comAt (headers x) z) (comAt (headers x) y) = false := by rw [before_iff hl mz my]; exact has
    refine ⟨?_, fun e => ?_, hb⟩
    · cases hs : sees (comAt (headers x) y) (comAt (headers x) z) with
      | false => rfl
      | true =>
        obtain ⟨i, hi, e1⟩ := List.getElem_of_mem my
        obtain ⟨j, hj, e2⟩ := List.getElem_of_mem mz
        rw [← e1, ← e2] at hs hb'
        have := (hC.see i j hi hj hs).1
        rw [hb'] at this; cases this
    · have e' : comAt (headers x) z = comAt (headers x) y := nd_eq hl.nd mz my (congrArg Nam.st e) (congrArg Nam.seq e)
      rw [e'] at h has
      simp [h] at has
  · have e1 : ∀ (D : List Int), D.map (namAt (headers x)) = (D.map (comAt (headers x))).map Com.nam := fun D => by rw [List.map_map]; rfl
    rw [e1, e1]
    have e2 : ((isort (ixR (headers x)) (rows (headers x) u 0 6)).filter fun y => Go.Abs.has a (namAt (headers x) y)).map (comAt (headers x)) = (orderC (headers x) u).filter fun e => Go.Abs.has a e.nam := by
      unfold orderC
      rw [List.filter_map]
      rfl
    rw [e2]
    exact congrArg (List.map Com.nam) f1
  · have e1 : ∀ (l' : List Com) (D : List Int), D.map (namAt l') = (D.map (comAt l')).map Com.nam := fun l' D => by rw [List.map_map]; rfl
    rw [e1, e1]
    exact congrArg (List.map Com.nam) f2

abbrev odS (f0 f1 f2 : SlF) (k0 k1 k2 : List Nat) (u O P M : List Int) (X : List Nam) : Sto := [.cells false [bytesV f0 k0, bytesV f1 k1, bytesV f2 k2], .cells false [ints .lst u, .int .i64 0], .cells false [ints .nil O, .int .i64 0], .cells false [ints .nil P, .int .i64 0], .cells false [ints .nil M, .int .i64 0], .cells false (X.flatMap cellsN)]

/-- the last loop -/
theorem od_b2 {f0 f1 f2 : SlF} {k0 k1 k2 : List Nat} {l mv : List Com} {a u O P M : List Int} (L : OrderL l mv a u O P M) {X : List Nam} (hX : P.map (namAt l) = X) : ∀ i, i ≤ 6 → ∀ m : Int, (u.drop i).foldl addW m = (O.length : Int) →
    Run T (Ret [.tmp 4] yes) (.inLoop l20_CutOrder.b2 :: l20_CutOrder.k2) (mkE 212 [(5, .bool true), (6, coms .lst l), (9, .ptr 1 2 0), (10, .ptr 2 2 0), (11, .ptr 3 2 0), (12, coms .lst mv), (13, .ptr 4 2 0), (14, .ref 5 (X.length * 2) 0 X.length 2), (18, .int .i64 m), (19, .int .i64 i)]) (odS f0 f1 f2 k0 k1 k2 u O P M X) := by
  have h6 := valid_len L.vu
  refine up_ind ?_ fun i hi ih => ?_
  · intro m hm
    rw [run_round, run_unfold l20_CutOrder.b2.eq_1]
    rw [List.drop_eq_nil_of_le (by omega)] at hm
    have hm : m = (O.length : Int) := hm
    subst hm
    have hlO := L.lO
    have hlP := L.lP
    have hlM := L.lM
    have fX : Fits X := by unfold Fits; rw [← hX, List.length_map]; omega
    have fO : Fits (O.map (namAt l)) := by unfold Fits; rw [List.length_map]; omega
    simp (maxSteps := 2000000) only [go_sem, ↓reduceIte, Nat.reduceLT, Nat.reduceEqDiff, Nat.reduceLeDiff, Nat.reduceAdd, Nat.reduceSub, Nat.reduceMul, Int.reduceLT, Int.reduceLE, Int.reduceEq, Int.reduceNeg, run_unfold l20_CutOrder.c0.eq_1, run_unfold l20_CutOrder.c1.eq_1, run_unfold l20_CutOrder.c2.eq_1, run_unfold l20_CutOrder.c3.eq_1, l20_CutOrder.k0, l20_CutOrder.k1, l20_CutOrder.k2, h6, r20_Names_call (f := .lst) (g := .nil) L.ixP (by omega), hX]
    rw [callK_live T_r20_SameNames (as := [noms .lst X, noms .lst X]) (r20_SameNames_spec fX) (by
      rw [mapM_scons, snapDepth_eq, snapA_step (by simp (maxSteps := 2000000) only [go_sem, ↓reduceIte, Nat.reduceLT, Nat.reduceEqDiff, Nat.reduceLeDiff, Nat.reduceAdd, Nat.reduceSub, Nat.reduceMul, Int.reduceLT, Int.reduceLE, Int.reduceEq, Int.reduceNeg]), mapM_scons, snap_noms (n := 62) (by rfl), mapM_snil]) (by simp (maxSteps := 2000000) only [go_sem, ↓reduceIte, Nat.reduceLT, Nat.reduceEqDiff, Nat.reduceLeDiff, Nat.reduceAdd, Nat.reduceSub, Nat.reduceMul, Int.reduceLT, Int.reduceLE, Int.reduceEq, Int.reduceNeg]) rfl]
    simp (maxSteps := 2000000) only [go_sem, ↓reduceIte, Nat.reduceLT, Nat.reduceEqDiff, Nat.reduceLeDiff, Nat.reduceAdd, Nat.reduceSub, Nat.reduceMul, Int.reduceLT, Int.reduceLE, Int.reduceEq, Int.reduceNeg, r20_Names_call (f := .lst) (g := .nil) L.ixM (by omega), r20_Names_call (f := .lst) (g := .nil) L.ixO (by omega), L.moved, r20_SameNames_call (f := .lst) (g := .lst) fO, decide_true]
  · intro m hm
    rw [run_round, run_unfold l20_CutOrder.b2.eq_1]
    have hi' : i < u.length := by omega
    rw [List.drop_eq_getElem_cons hi', List.foldl_cons] at hm
    simp (maxSteps := 2000000) only [go_sem, ↓reduceIte, Nat.reduceLT, Nat.reduceEqDiff, Nat.reduceLeDiff, Nat.reduceAdd, Nat.reduceSub, Nat.reduceMul, Int.reduceLT, Int.reduceLE, Int.reduceEq, Int.reduceNeg, h6, hi', hi, show ((i : Int) < 6) by omega, wrap_succ (show i < 9223372036854775807 by omega), run_unfold l20_CutOrder.c0.eq_1, run_unfold l20_CutOrder.c1.eq_1, run_unfold l20_CutOrder.c2.eq_1, run_unfold l20_CutOrder.c3.eq_1, l20_CutOrder.k0, l20_CutOrder.k1, l20_CutOrder.k2]
    exact ih _ hm

theorem pw_get {α : Type} {R : α → α → Prop} {D : List α} (h : D.Pairwise R) {i j : Nat} (hi : i < D.length) (hj : j < D.length) (hij : i < j) : R D[i] D[j] := List.pairwise_iff_getElem.1 h i j hi hj hij

abbrev odE (l mv : List Com) (a : List Int) (X : List Nam) (i : Nat) : List (Nat × AVal) := [(5, .bool true), (6, coms .lst l), (7, ints .lst a), (9, .ptr 1 2 0), (10, .ptr 2 2 0), (11, .ptr 3 2 0), (12, coms .lst mv), (13, .ptr 4 2 0), (14, .ref 5 (X.length * 2) 0 X.length 2), (15, .int .i64 i)]

theorem od_b1 {f0 f1 f2 : SlF} {k0 k1 k2 : List Nat} {l mv : List Com} {a u O P M : List Int} (L : OrderL l mv a u O P M) {X : List Nam} {Q : Post3} {K : List Item} {i kk : Nat} (hi : i < O.length) (e : O[i] = (kk : Int)) (hk : kk < l.length)
    (next : Run T Q K (mkE 212 (odE l mv a X i ++ [(16, .ptr 6 5 0), (17, .int .i64 O.length), (117, .bool false)])) (odS f0 f1 f2 k0 k1 k2 u O P M X ++ [.cells false (cellsC l[kk])])) : ∀ j, j ≤ O.length → i ≤ j →
    Run T Q (.inLoop l20_CutOrder.b1 :: .inBlock 2 :: K) (mkE 212 (odE l mv a X i ++ [(16, .ptr 6 5 0), (17, .int .i64 j)])) (odS f0 f1 f2 k0 k1 k2 u O P M X ++ [.cells false (cellsC l[kk])]) := by
  refine up_ind ?_ fun j hj ih => ?_
  · intro _
    rw [run_round, run_unfold l20_CutOrder.b1.eq_1]
    simp (maxSteps := 2000000) only [go_sem, ↓reduceIte, Nat.reduceLT, Nat.reduceEqDiff, Nat.reduceLeDiff, Nat.reduceAdd, Nat.reduceSub, Nat.reduceMul, Int.reduceLT, Int.reduceLE, Int.reduceEq, Int.reduceNeg, Nat.lt_irrefl, List.cons_append, List.nil_append]
    exact next
  · intro hij
    obtain ⟨kj, e2, hk2⟩ := L.ixO O[j] (List.getElem_mem hj)
    have hw := wrap_succ (show j < 9223372036854775807 by have := L.lO; omega)
    rcases Nat.lt_or_ge i j with hlt | hge
    · obtain ⟨p1, p2, p3⟩ := pw_get L.pw hi hj hlt
      rw [e, e2, comAt_get hk, comAt_get hk2] at p1 p3
      have p2' : decide (l[kj].nam = l[kk].nam) = false := decide_eq_false (by
        have := p2
        unfold namAt at this
        rwa [e, e2, comAt_get hk, comAt_get hk2] at this)
      rw [nam_eq] at p2'
      have p2'' : (decide (l[kj].st = l[kk].st) && decide (l[kj].seq = l[kk].seq)) = false := p2'
      rw [run_round, run_unfold l20_CutOrder.b1.eq_1]
      simp (maxSteps := 2000000) only [go_sem, ↓reduceIte, Nat.reduceLT, Nat.reduceEqDiff, Nat.reduceLeDiff, Nat.reduceAdd, Nat.reduceSub, Nat.reduceMul, Int.reduceLT, Int.reduceLE, Int.reduceEq, Int.reduceNeg, hj, e2, hk2, List.cons_append, List.nil_append, p1, p2'', p3, show ((i : Int) < (j : Int)) by omega, hw, run_unfold l20_CutOrder.c0.eq_1, run_unfold l20_CutOrder.c1.eq_1, run_unfold l20_CutOrder.c2.eq_1, run_unfold l20_CutOrder.c3.eq_1, l20_CutOrder.k0, l20_CutOrder.k1, l20_CutOrder.k2]
      exact ih (by omega)
    · have hij : i = j := by omega
      subst hij
      have p1 := L.irr O[i] (List.getElem_mem hi)
      rw [e, comAt_get hk] at p1
      rw [e] at e2
      obtain rfl : kk = kj := by omega
      rw [run_round, run_unfold l20_CutOrder.b1.eq_1]
      simp (maxSteps := 2000000) only [go_sem, ↓reduceIte, Nat.reduceLT, Nat.reduceEqDiff, Nat.reduceLeDiff, Nat.reduceAdd, Nat.reduceSub, Nat.reduceMul, Int.reduceLT, Int.reduceLE, Int.reduceEq, Int.reduceNeg, hj, e, hk, List.cons_append, List.nil_append, p1, Int.lt_irrefl, hw, run_unfold l20_CutOrder.c0.eq_1, run_unfold l20_CutOrder.c1.eq_1, run_unfold l20_CutOrder.c2.eq_1, run_unfold l20_CutOrder.c3.eq_1, l20_CutOrder.k0, l20_CutOrder.k1, l20_CutOrder.k2]
      exact ih (by omega)

def kept (a : List Int) (l : List Com) (D : List Int) : List Nam := (D.filter fun x => has a (namAt l x)).map (namAt l)
theorem kept_snoc {a : List Int} {l : List Com} {O : List Int} {i : Nat} (hi : i < O.length) : kept a l (O.take (i + 1)) = if has a (namAt l O[i]) = true then kept a l (O.take i) ++ [namAt l O[i]] else kept a l (O.take i) := by
  rw [List.take_succ_eq_append_getElem hi]
  simp only [kept, List.filter_append, List.map_append, List.filter_cons, List.filter_nil]
  split <;> simp
theorem kept_len {a : List Int} {l : List Com} {O : List Int} (h : O.length ≤ 12) (i : Nat) : (kept a l (O.take i)).length ≤ 12 := by
  unfold kept
  rw [List.length_map]
  exact Nat.le_trans (List.length_filter_le _ _) (by rw [List.length_take]; omega)

theorem od_b0 {f0 f1 f2 : SlF} {k0 k1 k2 : List Nat} {l mv : List Com} {a u O P M : List Int} (L : OrderL l mv a u O P M) : ∀ i, i ≤ O.length →
    Run T (Ret [.tmp 4] yes) (.inLoop l20_CutOrder.b0 :: l20_CutOrder.k0) (mkE 212 (odE l mv a (kept a l (O.take i)) i)) (odS f0 f1 f2 k0 k1 k2 u O P M (kept a l (O.take i))) := by
  have one2 : ∀ y : Nam, (cellsN y).all AVal.one = true := fun _ => rfl
  refine up_ind ?_ fun i hi ih => ?_
  · rw [List.take_length]
    have hX : P.map (namAt l) = kept a l O := L.names
    generalize kept a l O = X at hX ⊢
    rw [run_round, run_unfold l20_CutOrder.b0.eq_1]
    simp (maxSteps := 2000000) only [go_sem, ↓reduceIte, Nat.reduceLT, Nat.reduceEqDiff, Nat.reduceLeDiff, Nat.reduceAdd, Nat.reduceSub, Nat.reduceMul, Int.reduceLT, Int.reduceLE, Int.reduceEq, Int.reduceNeg, Nat.lt_irrefl, run_unfold l20_CutOrder.c0.eq_1, run_unfold l20_CutOrder.c1.eq_1, run_unfold l20_CutOrder.c2.eq_1, run_unfold l20_CutOrder.c3.eq_1, l20_CutOrder.k0, l20_CutOrder.k1, l20_CutOrder.k2]
    have := od_b2 (f0 := f0) (f1 := f1) (f2 := f2) (k0 := k0) (k1 := k1) (k2 := k2) L hX 0 (by omega) 0 L.cnt
    exact this
  · obtain ⟨kk, e, hk⟩ := L.ixO O[i] (List.getElem_mem hi)
    have hs := kept_snoc (a := a) (l := l) hi
    have hl := kept_len (a := a) (l := l) L.lO i
    have en : namAt l O[i] = l[kk].nam := by unfold namAt; rw [e, comAt_get hk]
    have h1 : has u ⟨l[kk].st, l[kk].seq⟩ = true := by have := L.has O[i] (List.getElem_mem hi); rw [en] at this; exact this
    rw [en] at hs
    have hw := wrap_succ (show i < 9223372036854775807 by have := L.lO; omega)
    generalize hXe : kept a l (O.take i) = X at hs hl ⊢
    rw [run_round, run_unfold l20_CutOrder.b0.eq_1]
    simp (maxSteps := 2000000) only [go_sem, ↓reduceIte, Nat.reduceLT, Nat.reduceEqDiff, Nat.reduceLeDiff, Nat.reduceAdd, Nat.reduceSub, Nat.reduceMul, Int.reduceLT, Int.reduceLE, Int.reduceEq, Int.reduceNeg, hi, e, hk, h1]
    refine od_b1 L hi e hk ?_ i (by omega) (by omega)
    cases hh : has a l[kk].nam
    · rw [hh, if_neg (by decide)] at hs
      rw [hs] at ih
      have hh' : has a ⟨l[kk].st, l[kk].seq⟩ = false := hh
      simp (maxSteps := 2000000) only [go_sem, ↓reduceIte, Nat.reduceLT, Nat.reduceEqDiff, Nat.reduceLeDiff, Nat.reduceAdd, Nat.reduceSub, Nat.reduceMul, Int.reduceLT, Int.reduceLE, Int.reduceEq, Int.reduceNeg, List.cons_append, List.nil_append, run_unfold l20_CutOrder.c0.eq_1, run_unfold l20_CutOrder.c1.eq_1, run_unfold l20_CutOrder.c2.eq_1, run_unfold l20_CutOrder.c3.eq_1, l20_CutOrder.k0, l20_CutOrder.k1, l20_CutOrder.k2, hh', names_noms, hw]
      exact ih
    · rw [hh, if_pos rfl] at hs
      rw [hs] at ih
      have hh' : has a ⟨l[kk].st, l[kk].seq⟩ = true := hh
      simp (maxSteps := 2000000) only [go_sem, ↓reduceIte, Nat.reduceLT, Nat.reduceEqDiff, Nat.reduceLeDiff, Nat.reduceAdd, Nat.reduceSub, Nat.reduceMul, Int.reduceLT, Int.reduceLE, Int.reduceEq, Int.reduceNeg, List.cons_append, List.nil_append, run_unfold l20_CutOrder.c0.eq_1, run_unfold l20_CutOrder.c1.eq_1, run_unfold l20_CutOrder.c2.eq_1, run_unfold l20_CutOrder.c3.eq_1, l20_CutOrder.k0, l20_CutOrder.k1, l20_CutOrder.k2, hh']
      refine after_of (appendV_struct (X := X) (y := l[kk].nam) (by decide) cellsN_len one2 (by rfl) (by rfl) (by unfold maxBytes; omega)) ?_
      simp (maxSteps := 2000000) only [go_sem, ↓reduceIte, Nat.reduceLT, Nat.reduceEqDiff, Nat.reduceLeDiff, Nat.reduceAdd, Nat.reduceSub, Nat.reduceMul, Int.reduceLT, Int.reduceLE, Int.reduceEq, Int.reduceNeg, run_unfold l20_CutOrder.c0.eq_1, run_unfold l20_CutOrder.c1.eq_1, run_unfold l20_CutOrder.c2.eq_1, run_unfold l20_CutOrder.c3.eq_1, l20_CutOrder.k0, l20_CutOrder.k1, l20_CutOrder.k2, names_noms, hw]
      exact ih

theorem pasts_fit {l : List Com} (hl : LGood l) : ∀ x ∈ l, Fits x.past := fun x hx => by have := (hl.coms x hx).len; unfold Fits; omega

theorem cutOrder_true {f f0 f1 f2 : SlF} {x k0 k1 k2 : List Nat} (hb : Fits x) (hb8 : ∀ n ∈ x, n < 256) (h0 : Fits k0) (h1 : Fits k1) (h2 : Fits k2) (h28 : ∀ n ∈ k2, n < 256) : Cw T false i_l20_CutOrder [bytesV f x, .agg [bytesV f0 k0, bytesV f1 k1, bytesV f2 k2]] [] [] yes := by
  have hf : Fits (headers x) := by have := headers_fits x; unfold Fits; omega
  have hl := headers_lgood x
  have h12 := headers_fits x
  obtain ⟨ca, va⟩ := cutOfL_closed (headers x) k0
  obtain ⟨cb, vb⟩ := cutOfL_closed (headers x) k1
  have cu := closed_max ca cb
  have vu := valid_maxL va vb
  have hle : le (cutOfL (headers x) k0) (maxL (cutOfL (headers x) k0) (cutOfL (headers x) k1)) := le_maxL1 (by rw [valid_len va, valid_len vb])
  have L := orderL_good (x := x) (b := k2) va ca vu cu hle
  have A : Go.Abs.Alike (headers x) (headers x) := ⟨hl, fun _ => Iff.rfl⟩
  have B : Go.Abs.Alike (headers x) (shuffled (headers x) k2) := ⟨hl, fun c => shuffled_mem c⟩
  have clu := clo_of_closed hl vu cu
  have cla := clo_of_closed hl va ca
  have pl := pasts_fit hl
  have pm : ∀ y ∈ shuffled (headers x) k2, Fits y.past := fun y hy => pl y ((shuffled_mem y).1 hy)
  have fs : Fits (shuffled (headers x) k2) := by
    unfold Fits shuffled
    simp only [List.length_append, List.length_take, shuf_len, List.length_nil]
    omega
  have cm : closedP (shuffled (headers x) k2) (maxL (cutOfL (headers x) k0) (cutOfL (headers x) k1)) = true := closedP_of (by rw [closed_congr (find_same hl fun c => shuffled_mem c)]; exact cu)
  have tu := (total_small vu cu).1
  have ta := (total_small va ca).1
  have ru : ∀ l', (rows l' (maxL (cutOfL (headers x) k0) (cutOfL (headers x) k1)) 0 6).length ≤ 12 := fun l' => by rw [rows_len 6 0 (valid_len vu).symm]; exact tu
  have ra : ∀ l', (rows l' (cutOfL (headers x) k0) 0 6).length ≤ 12 := fun l' => by rw [rows_len 6 0 (valid_len va).symm]; exact ta
  have oO := fun {lv σ R} => l20_order_spec (f := .lst) (g := .lst) (lv := lv) (σ := σ) (R := R) hf vu (closedP_of cu) pl (ru _) (order_ok A vu clu).1
  have oP := fun {lv σ R} => l20_order_spec (f := .lst) (g := .lst) (lv := lv) (σ := σ) (R := R) hf va (closedP_of ca) pl (ra _) (order_ok A va cla).1
  have oM := fun {lv σ R} => l20_order_spec (f := .lst) (g := .lst) (lv := lv) (σ := σ) (R := R) fs vu cm pm (ru _) (order_ok B vu clu).1
  generalize hO : isort (ixR (headers x)) (rows (headers x) (maxL (cutOfL (headers x) k0) (cutOfL (headers x) k1)) 0 6) = O at L oO
  generalize hP : isort (ixR (headers x)) (rows (headers x) (cutOfL (headers x) k0) 0 6) = P at L oP
  generalize hM : isort (ixR (shuffled (headers x) k2)) (rows (shuffled (headers x) k2) (maxL (cutOfL (headers x) k0) (cutOfL (headers x) k1)) 0 6) = M at L oM
  have h100 : (headers x).length ≤ 100 := by omega
  have S := fun {Q K os d e σ} => r20_Shuffled_call (f := .lst) (g := f2) (Q := Q) (k := K) (os := os) (d := d) (e := e) (σ := σ) hf h100 h2 h28
  generalize hL : headers x = l at hf va vb L oO oP oM S
  generalize hm : shuffled l k2 = mv at L oM S
  generalize ha : cutOfL l k0 = a at L va oP oO oM
  generalize hb' : cutOfL l k1 = b at L vb oO oM
  have hlO := L.lO
  have hlP := L.lP
  have hlM := L.lM
  rw [cw_enter T_l20_CutOrder (by simp), run_unfold l20_CutOrder.main.eq_1]
  simp (maxSteps := 2000000) only [go_sem, ↓reduceIte, Nat.reduceLT, Nat.reduceEqDiff, Nat.reduceLeDiff, Nat.reduceAdd, Nat.reduceSub, Nat.reduceMul, Int.reduceLT, Int.reduceLE, Int.reduceEq, Int.reduceNeg, r20_Headers_call (f := f) hb hb8, hL, hf, h0, h1, x_ia0, x_ia1, x_ia2, ha, hb', cutOf, va, vb, callK_of oO, callK_of oP, callK_of oM, S, l20_fits_call (f := .lst) (g := .nil) L.ixO (by omega), l20_fits_call (f := .lst) (g := .nil) L.ixP (by omega), l20_fits_call (f := .lst) (g := .nil) L.ixM (by omega)]

  exact od_b0 L 0 (by omega)

end Go.Abs
