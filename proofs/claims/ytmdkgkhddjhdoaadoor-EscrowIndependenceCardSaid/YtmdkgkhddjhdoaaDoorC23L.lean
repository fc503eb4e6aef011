/- Chapter 23: two commits of different stations. -/
import Derived.Test.YtmdkgkhddjhdoaaDoorC23H
import Derived.Test.YtmdkgkhddjhdoaaDoorC23K
set_option linter.all false
set_option linter.unusedSimpArgs false
set_option linter.unusedVariables false
set_option maxRecDepth 10000
namespace Go.Abs
open Go

theorem comB_fits {st : Int} {l : List Tri} : Fits (comB st l).ops := by
  unfold Fits comB
  simp only [List.length_map, List.length_take]
  omega
theorem doP_some {s p : List Int} {c : Cm} (h : doP s c = some p) : Good s ∧ 0 ≤ c.st ∧ c.st < 6 ∧ opsP c.st c.ops s = some p ∧ Good p := by
  unfold doP at h
  split at h
  · rename_i hc
    simp only [Bool.and_eq_true, decide_eq_true_eq] at hc
    have hG := svalid_good.1 hc.1
    exact ⟨hG, hc.2.1, hc.2.2, h, opsP_good hG h⟩
  · cases h
theorem doP_mk {s p : List Int} {c : Cm} (hG : Good s) (h0 : 0 ≤ c.st) (h6 : c.st < 6) (h : opsP c.st c.ops s = some p) : doP s c = some p := by
  unfold doP
  rw [if_pos (by simp [svalid_good.2 hG, h0, h6]), h]
theorem Good.fits {s : List Int} (h : Good s) : Fits s := by have := h.len; unfold Fits; omega

set_option maxHeartbeats 4000000 in
theorem l23_EscrowIndependence_true {f f1 f2 : SlF} {b : List Nat} {x y : List Tri} (hb : Fits b) (hx : Fits x) (hy : Fits y) {lv : List Nat} {σ : Sto} {R : Post} : Cw T true i_l23_EscrowIndependence [bytesV f b, trisV f1 x, trisV f2 y] lv σ R ↔ R (.bool true) σ := by
  refine cw_intro T_l23_EscrowIndependence (by simp only [go_sem]) (by simp) ?_; rw [run_unfold l23_EscrowIndependence.main.eq_1]
  have hG := sharesP_good b
  generalize hsd : sharesP b = s at hG
  have hc : Fits (comB 0 x).ops := comB_fits
  have hd : Fits (comB 1 y).ops := comB_fits
  have c0 : (comB 0 x).st = 0 := rfl
  have d0 : (comB 1 y).st = 1 := rfl
  generalize hcd : comB 0 x = c at hc c0
  generalize hdd : comB 1 y = d at hd d0
  cases hp : doP s c with
  | none =>
    cases hq : doP s d with
    | none => simp (maxSteps := 2000000) only [go_sem, ↓reduceIte, Nat.reduceLT, Nat.reduceEqDiff, Nat.reduceLeDiff, Nat.reduceAdd, Nat.reduceSub, Nat.reduceMul, Int.reduceLT, Int.reduceLE, Int.reduceEq, Int.reduceNeg, hb, hx, hy, hsd, hcd, hdd, hc, hd, hp, hq, gotG]
    | some q => simp (maxSteps := 2000000) only [go_sem, ↓reduceIte, Nat.reduceLT, Nat.reduceEqDiff, Nat.reduceLeDiff, Nat.reduceAdd, Nat.reduceSub, Nat.reduceMul, Int.reduceLT, Int.reduceLE, Int.reduceEq, Int.reduceNeg, hb, hx, hy, hsd, hcd, hdd, hc, hd, hp, hq, gotG]
  | some p =>
    obtain ⟨_, p0, p1, p2, pG⟩ := doP_some hp
    cases hq : doP s d with
    | none => simp (maxSteps := 2000000) only [go_sem, ↓reduceIte, Nat.reduceLT, Nat.reduceEqDiff, Nat.reduceLeDiff, Nat.reduceAdd, Nat.reduceSub, Nat.reduceMul, Int.reduceLT, Int.reduceLE, Int.reduceEq, Int.reduceNeg, hb, hx, hy, hsd, hcd, hdd, hc, hd, hp, hq, gotG]
    | some q =>
      obtain ⟨_, q0, q1, q2, qG⟩ := doP_some hq
      obtain ⟨u, u1, u2⟩ := opsP_swap p0 q0 (by rw [c0, d0]; decide) hG.len p2 q2
      have hu := doP_mk pG q0 q1 u1
      have hv := doP_mk qG p0 p1 u2
      have uG := opsP_good pG u1
      simp (maxSteps := 2000000) only [go_sem, ↓reduceIte, Nat.reduceLT, Nat.reduceEqDiff, Nat.reduceLeDiff, Nat.reduceAdd, Nat.reduceSub, Nat.reduceMul, Int.reduceLT, Int.reduceLE, Int.reduceEq, Int.reduceNeg, hb, hx, hy, hsd, hcd, hdd, hc, hd, hp, hq, hu, hv, gotG, svalid_good.2 pG, svalid_good.2 qG, pG.fits, qG.fits, uG.fits]
end Go.Abs
