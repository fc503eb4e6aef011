/- The walk of CutLattice. -/
import Derived.Test.YtaiibojjndeipaaC20R
set_option linter.all false
set_option linter.unusedSimpArgs false
set_option linter.unusedVariables false
set_option maxRecDepth 100000
set_option maxHeartbeats 4000000
namespace Go.Abs
open Go

theorem fits6 {a : List Int} (h : valid a = true) : Fits a := by have := valid_len h; unfold Fits; omega

theorem x_ia0 {σ : Sto} : iaddrAV 3 1 (.ptr 0 3 0) (.int .i64 0) σ = some (.ptr 0 3 0, σ) := rfl
theorem x_ia1 {σ : Sto} : iaddrAV 3 1 (.ptr 0 3 0) (.int .i64 1) σ = some (.ptr 0 3 1, σ) := rfl
theorem x_ia2 {σ : Sto} : iaddrAV 3 1 (.ptr 0 3 0) (.int .i64 2) σ = some (.ptr 0 3 2, σ) := rfl
theorem cutLattice_true {f f0 f1 f2 : SlF} {x k0 k1 k2 : List Nat} (hb : Fits x) (hb8 : ∀ n ∈ x, n < 256) (h0 : Fits k0) (h1 : Fits k1) (h2 : Fits k2) : Cw T false i_l20_CutLattice [bytesV f x, .agg [bytesV f0 k0, bytesV f1 k1, bytesV f2 k2]] [] [] yes := by
  have hl : Fits (headers x) := by have := headers_fits x; unfold Fits; omega
  generalize hL : headers x = l at hl
  obtain ⟨ca, va⟩ := cutOfL_closed l k0
  obtain ⟨cb, vb⟩ := cutOfL_closed l k1
  obtain ⟨cc, vc⟩ := cutOfL_closed l k2
  generalize ha : cutOfL l k0 = a at ca va
  generalize hb' : cutOfL l k1 = b at cb vb
  generalize hc' : cutOfL l k2 = c at cc vc
  have L := latt va vb vc
  have L2 := latt vb vc va
  have vp := valid_maxL va vb
  have vq := valid_minL va vb
  have vbc := valid_maxL vb vc
  have vbc2 := valid_minL vb vc
  have cp := closedP_of (closed_max ca cb)
  have cq := closedP_of (closed_min ca cb)
  have f1 := fits6 vp
  have f2 := fits6 vq
  have f3 := fits6 va
  have f4 := fits6 (valid_maxL va vbc)
  have f5 := fits6 (valid_minL va vbc2)
  have e1 := L.leq1
  have e2 := L.leq2
  rw [cw_enter T_l20_CutLattice (by simp), run_unfold l20_CutLattice.main.eq_1]
  cases hq : leq a b <;> rw [hq] at e1 e2
  · simp (maxSteps := 2000000) only [go_sem, ↓reduceIte, Nat.reduceLT, Nat.reduceEqDiff, Nat.reduceLeDiff, Nat.reduceAdd, Nat.reduceSub, Nat.reduceMul, Int.reduceLT, Int.reduceLE, Int.reduceEq, Int.reduceNeg, r20_Headers_call (f := f) hb hb8, hL, hl, h0, h1, h2, ha, hb', hc', cutOf, va, vb, vc, vp, vq, vbc, vbc2, cp, cq, x_ia0, x_ia1, x_ia2, L.comm1, L.comm2, L.ass1, L.ass2, L.id1, L.id2, L.abs1, L.abs2, f1, f2, f3, f4, f5, hq, e1.symm, e2.symm, L.mm]
  · simp (maxSteps := 2000000) only [go_sem, ↓reduceIte, Nat.reduceLT, Nat.reduceEqDiff, Nat.reduceLeDiff, Nat.reduceAdd, Nat.reduceSub, Nat.reduceMul, Int.reduceLT, Int.reduceLE, Int.reduceEq, Int.reduceNeg, r20_Headers_call (f := f) hb hb8, hL, hl, h0, h1, h2, ha, hb', hc', cutOf, va, vb, vc, vp, vq, vbc, vbc2, cp, cq, x_ia0, x_ia1, x_ia2, L.comm1, L.comm2, L.ass1, L.ass2, L.id1, L.id2, L.abs1, L.abs2, f1, f2, f3, f4, f5, hq, e1.symm, e2.symm, L.mm]

end Go.Abs
