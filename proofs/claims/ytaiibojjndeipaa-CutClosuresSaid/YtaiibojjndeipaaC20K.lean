/- Walks of chapter 20: the program's closed cuts. -/
import Derived.Test.YtaiibojjndeipaaC20J
set_option linter.all false
set_option linter.unusedSimpArgs false
set_option linter.unusedVariables false
namespace Go.Abs
open Go

/-- the first station from s on, of d, that has too much -/
def firstS (l : List Com) (c : List Int) (s : Nat) : Nat → Option Nat
  | 0 => none
  | d + 1 => if full l c s = true then firstS l c (s + 1) d else some s
def reachF (l : List Com) : Nat → List Int → List Int
  | 0, c => c
  | n + 1, c => match firstS l c 0 6 with
    | none => c
    | some s => reachF l n (c.set s (fit l c s : Nat))

theorem cut_reach_q {f : SlF} {l : List Com} {c : List Int} {s m : Nat} {Q : Post3} (hl : Fits l) (hv : valid c = true) (hs : s < 6) (hm : c.getD s 0 = (m : Int)) (hb : m < 1000)
    (hgood : fit l c s = m → Run T Q (.inLoop cut_reach.b1 :: cut_reach.k1) (mkE 58 [(0, coms f l), (1, .ref 0 6 0 6 1), (4, fmapN (nmap l)), (5, .bool false), (13, .int .i64 ((s + 1 : Nat) : Int))]) [.cells false (c.map fun n => .int .i64 n)])
    (hbad : fit l c s < m → Run T Q (.inLoop cut_reach.b0 :: cut_reach.k0) (mkE 58 [(0, coms f l), (1, .ref 0 6 0 6 1), (4, fmapN (nmap l)), (5, .bool true)]) [.cells false ((c.set s (fit l c s : Nat)).map fun n => .int .i64 n)]) :
    ∀ d q, q + d = m → lead (okq l c s) q d = fit l c s →
    Run T Q (.inLoop cut_reach.b2 :: cut_reach.k2) (mkE 58 [(0, coms f l), (1, .ref 0 6 0 6 1), (4, fmapN (nmap l)), (5, .bool false), (6, .int .i64 s), (13, .int .i64 s), (19, .int .i64 m), (20, .int .i64 q)]) [.cells false (c.map fun n => .int .i64 n)] := by
  have h6 := valid_len hv
  have hsl : s < c.length := by omega
  have hw1 := wrap_succ (show s < 9223372036854775807 by omega)
  intro d
  induction d with
  | zero =>
    intro q hq hf
    have hqm : q = m := by omega
    subst hqm
    rw [run_round, run_unfold cut_reach.b2.eq_1]
    simp (maxSteps := 2000000) only [go_sem, ↓reduceIte, Nat.reduceLT, Nat.reduceEqDiff, Nat.reduceLeDiff, Nat.reduceAdd, Nat.reduceSub, Nat.reduceMul, Int.reduceLT, Int.reduceLE, Int.reduceEq, Int.reduceNeg, run_unfold cut_reach.c0.eq_1, run_unfold cut_reach.c1.eq_1, run_unfold cut_reach.c2.eq_1, cut_reach.k0, cut_reach.k1, cut_reach.k2, hw1]
    exact hgood hf.symm
  | succ d ih =>
    intro q hq hf
    rw [run_round, run_unfold cut_reach.b2.eq_1]
    have hlt : (q : Int) < (m : Int) := by omega
    have hw := wrap_succ (show q < 9223372036854775807 by omega)
    have bad : okq l c s (q + 1) = false → fit l c s = q := fun h => by rw [← hf, lead, h]; rfl
    have good : okq l c s (q + 1) = true → lead (okq l c s) (q + 1) d = fit l c s := fun h => by rw [← hf, lead, h]; rfl
    rcases nmap_cases l ⟨s, ((q + 1 : Nat) : Int)⟩ with ⟨h1, h2⟩ | ⟨j, hj, h1, h2⟩
    · have hk : okq l c s (q + 1) = false := by unfold okq; rw [h2]
      have hq2 := bad hk
      have := hbad (by omega)
      rw [hq2] at this
      simp (maxSteps := 2000000) only [go_sem, ↓reduceIte, Nat.reduceLT, Nat.reduceEqDiff, Nat.reduceLeDiff, Nat.reduceAdd, Nat.reduceSub, Nat.reduceMul, Int.reduceLT, Int.reduceLE, Int.reduceEq, Int.reduceNeg, run_unfold cut_reach.c0.eq_1, run_unfold cut_reach.c1.eq_1, run_unfold cut_reach.c2.eq_1, cut_reach.k0, cut_reach.k1, cut_reach.k2, hlt, hw, h1, hs, hsl, h6, show s ≤ 5 by omega, show s + 1 ≤ 6 by omega]
      exact this
    · cases h3 : wf l[j]
      · have hk : okq l c s (q + 1) = false := by unfold okq; rw [h2]; simp [h3]
        have hq2 := bad hk
        have := hbad (by omega)
        rw [hq2] at this
        simp (maxSteps := 2000000) only [go_sem, ↓reduceIte, Nat.reduceLT, Nat.reduceEqDiff, Nat.reduceLeDiff, Nat.reduceAdd, Nat.reduceSub, Nat.reduceMul, Int.reduceLT, Int.reduceLE, Int.reduceEq, Int.reduceNeg, run_unfold cut_reach.c0.eq_1, run_unfold cut_reach.c1.eq_1, run_unfold cut_reach.c2.eq_1, cut_reach.k0, cut_reach.k1, cut_reach.k2, hlt, hw, h1, hj, h3, hs, hsl, h6, show s + 1 ≤ 6 by omega]
        exact this
      · have hleq : ∀ {Q : Post3} {k : List Item} {os : List AOper} {d : Option Nat} {e : Env}, CallK T Q k os d e [.cells false (c.map fun n => .int .i64 n)] true i_cut_Leq [ints l[j].pf l[j].past, .ref 0 6 0 6 1] ↔ Run T Q (.ops os :: k) (put e d (.bool (leq l[j].past c))) [.cells false (c.map fun n => .int .i64 n)] := by
          intro Q k os d e
          exact callK_live T_cut_Leq (as := [ints l[j].pf l[j].past, ints .lst c]) cut_Leq_spec (by
            rw [mapM_scons, snapDepth_eq, snapA_step (by simp (maxSteps := 2000000) only [go_sem, ↓reduceIte, Nat.reduceLT, Nat.reduceEqDiff, Nat.reduceLeDiff, Nat.reduceAdd, Nat.reduceSub, Nat.reduceMul, Int.reduceLT, Int.reduceLE, Int.reduceEq, Int.reduceNeg]), mapM_scons, snap_lit (c := c) (by rfl) h6, mapM_snil]) (by simp (maxSteps := 2000000) only [go_sem, ↓reduceIte, Nat.reduceLT, Nat.reduceEqDiff, Nat.reduceLeDiff, Nat.reduceAdd, Nat.reduceSub, Nat.reduceMul, Int.reduceLT, Int.reduceLE, Int.reduceEq, Int.reduceNeg]) rfl
        cases h4 : leq l[j].past c
        · have hk : okq l c s (q + 1) = false := by unfold okq; rw [h2]; simp [h3, h4]
          have hq2 := bad hk
          have := hbad (by omega)
          rw [hq2] at this
          simp (maxSteps := 2000000) only [go_sem, ↓reduceIte, Nat.reduceLT, Nat.reduceEqDiff, Nat.reduceLeDiff, Nat.reduceAdd, Nat.reduceSub, Nat.reduceMul, Int.reduceLT, Int.reduceLE, Int.reduceEq, Int.reduceNeg, run_unfold cut_reach.c0.eq_1, run_unfold cut_reach.c1.eq_1, run_unfold cut_reach.c2.eq_1, cut_reach.k0, cut_reach.k1, cut_reach.k2, hlt, hw, h1, hj, h3, hleq, h4, hs, hsl, h6, show s + 1 ≤ 6 by omega]
          exact this
        · have hk : okq l c s (q + 1) = true := by unfold okq; rw [h2]; simp [h3, h4]
          simp (maxSteps := 2000000) only [go_sem, ↓reduceIte, Nat.reduceLT, Nat.reduceEqDiff, Nat.reduceLeDiff, Nat.reduceAdd, Nat.reduceSub, Nat.reduceMul, Int.reduceLT, Int.reduceLE, Int.reduceEq, Int.reduceNeg, run_unfold cut_reach.c0.eq_1, run_unfold cut_reach.c1.eq_1, run_unfold cut_reach.c2.eq_1, cut_reach.k0, cut_reach.k1, cut_reach.k2, hlt, hw, h1, hj, h3, hleq, h4, hs, hsl, h6]
          exact ih (q + 1) (by omega) (good hk)

theorem full_iff {l : List Com} {c : List Int} (hv : valid c = true) {s : Nat} (hs : s < 6) {m : Nat} (hm : c.getD s 0 = (m : Int)) : full l c s = decide (fit l c s = m) := by
  have h := fit_le (l := l) (c := c) (s := s)
  rw [hm] at h
  unfold full
  rw [hm]
  by_cases e : fit l c s = m
  · simp [e]
  · have : fit l c s < m := by
      have : ((m : Int)).toNat = m := rfl
      omega
    simp [e, this]

theorem cut_reach_s {f : SlF} {l : List Com} {c : List Int} {Q : Post3} (hl : Fits l) (hv : valid c = true)
    (hgood : firstS l c 0 6 = none → Run T Q (.inLoop cut_reach.b0 :: cut_reach.k0) (mkE 58 [(0, coms f l), (1, .ref 0 6 0 6 1), (4, fmapN (nmap l)), (5, .bool false)]) [.cells false (c.map fun n => .int .i64 n)])
    (hbad : ∀ s, firstS l c 0 6 = some s → s < 6 → fit l c s < (c.getD s 0).toNat → Run T Q (.inLoop cut_reach.b0 :: cut_reach.k0) (mkE 58 [(0, coms f l), (1, .ref 0 6 0 6 1), (4, fmapN (nmap l)), (5, .bool true)]) [.cells false ((c.set s (fit l c s : Nat)).map fun n => .int .i64 n)]) :
    ∀ i, i ≤ 6 → firstS l c i (6 - i) = firstS l c 0 6 →
    Run T Q (.inLoop cut_reach.b1 :: cut_reach.k1) (mkE 58 [(0, coms f l), (1, .ref 0 6 0 6 1), (4, fmapN (nmap l)), (5, .bool false), (13, .int .i64 i)]) [.cells false (c.map fun n => .int .i64 n)] := by
  have h6 := valid_len hv
  refine up_ind ?_ fun i hi ih hf => ?_
  · intro hf
    rw [run_round, run_unfold cut_reach.b1.eq_1]
    simp (maxSteps := 2000000) only [go_sem, ↓reduceIte, Nat.reduceLT, Nat.reduceEqDiff, Nat.reduceLeDiff, Nat.reduceAdd, Nat.reduceSub, Nat.reduceMul, Int.reduceLT, Int.reduceLE, Int.reduceEq, Int.reduceNeg, run_unfold cut_reach.c0.eq_1, run_unfold cut_reach.c1.eq_1, run_unfold cut_reach.c2.eq_1, cut_reach.k0, cut_reach.k1, cut_reach.k2]
    exact hgood hf.symm
  · rw [run_round, run_unfold cut_reach.b1.eq_1]
    have hil : i < c.length := by omega
    obtain ⟨m, g1, g2, g3⟩ := valid_get hv hil
    have hgd : c.getD i 0 = c[i] := by rw [List.getD_eq_getElem?_getD, List.getElem?_eq_getElem hil]; rfl
    have hfu := full_iff (l := l) hv hi (hgd.trans g1)
    rw [show 6 - i = (6 - (i + 1)) + 1 by omega, firstS] at hf
    simp (maxSteps := 2000000) only [go_sem, ↓reduceIte, Nat.reduceLT, Nat.reduceEqDiff, Nat.reduceLeDiff, Nat.reduceAdd, Nat.reduceSub, Nat.reduceMul, Int.reduceLT, Int.reduceLE, Int.reduceEq, Int.reduceNeg, run_unfold cut_reach.c0.eq_1, run_unfold cut_reach.c1.eq_1, run_unfold cut_reach.c2.eq_1, cut_reach.k0, cut_reach.k1, cut_reach.k2, show ((i : Int) < 6) by omega, hil, h6, hi, g1]
    refine cut_reach_q hl hv hi (hgd.trans g1) g2 (fun he => ?_) (fun hlt => ?_) m 0 (by omega) (by unfold fit; rw [g3])
    · have : full l c i = true := by rw [hfu, he]; simp
      rw [if_pos this] at hf
      exact ih hf
    · have : full l c i = false := by rw [hfu]; simp; omega
      rw [this] at hf
      simp only [Bool.false_eq_true, if_false] at hf
      exact hbad i hf.symm hi (by rw [g3]; exact hlt)

theorem cut_reach_loop {f : SlF} {l : List Com} {Q : Post3} (hl : Fits l) : ∀ n (c : List Int), valid c = true → total c < n →
    (∀ e, Q .normal e [.cells false ((reachF l n c).map fun n => .int .i64 n)]) →
    Run T Q (.inLoop cut_reach.b0 :: cut_reach.k0) (mkE 58 [(0, coms f l), (1, .ref 0 6 0 6 1), (4, fmapN (nmap l)), (5, .bool true)]) [.cells false (c.map fun n => .int .i64 n)] := by
  intro n
  induction n with
  | zero => intro c _ h; omega
  | succ n ih =>
    intro c hv hn hQ
    rw [run_round, run_unfold cut_reach.b0.eq_1]
    simp (maxSteps := 2000000) only [go_sem, ↓reduceIte, Nat.reduceLT, Nat.reduceEqDiff, Nat.reduceLeDiff, Nat.reduceAdd, Nat.reduceSub, Nat.reduceMul, Int.reduceLT, Int.reduceLE, Int.reduceEq, Int.reduceNeg, run_unfold cut_reach.c0.eq_1, run_unfold cut_reach.c1.eq_1, run_unfold cut_reach.c2.eq_1, cut_reach.k0, cut_reach.k1, cut_reach.k2]
    refine cut_reach_s hl hv (fun hf => ?_) (fun s hf hs hlt => ?_) 0 (by omega) rfl
    · rw [run_round, run_unfold cut_reach.b0.eq_1]
      simp (maxSteps := 2000000) only [go_sem, ↓reduceIte, Nat.reduceLT, Nat.reduceEqDiff, Nat.reduceLeDiff, Nat.reduceAdd, Nat.reduceSub, Nat.reduceMul, Int.reduceLT, Int.reduceLE, Int.reduceEq, Int.reduceNeg, run_unfold cut_reach.c0.eq_1, run_unfold cut_reach.c1.eq_1, run_unfold cut_reach.c2.eq_1, cut_reach.k0, cut_reach.k1, cut_reach.k2]
      have := hQ
      rw [reachF, hf] at this
      exact this _
    · have hsl : s < c.length := by rw [valid_len hv]; exact hs
      have h3 := total_set (v := fit l c s) hsl
      refine ih _ (valid_set hv (by omega) (fit_small hv hs)) (by omega) fun e => ?_
      have := hQ e
      rw [reachF, hf] at this
      exact this

theorem cut_reach_spec {f : SlF} {l : List Com} {c : List Int} (hl : Fits l) (hv : valid c = true) {R : Post} : Cw T false i_cut_reach [coms f l, .ref 0 6 0 6 1] [] [.cells false (c.map fun n => .int .i64 n)] R ↔ R (.tup []) [.cells false ((reachF l 6000 c).map fun n => .int .i64 n)] := by
  refine Cw.iff_of fun R hR => ?_
  rw [cw_enter T_cut_reach (by simp), run_unfold cut_reach.main.eq_1]
  simp (maxSteps := 2000000) only [go_sem, ↓reduceIte, Nat.reduceLT, Nat.reduceEqDiff, Nat.reduceLeDiff, Nat.reduceAdd, Nat.reduceSub, Nat.reduceMul, Int.reduceLT, Int.reduceLE, Int.reduceEq, Int.reduceNeg, hl]
  refine cut_reach_loop hl 6000 c hv (total_le hv) fun e => ?_
  exact hR

end Go.Abs
