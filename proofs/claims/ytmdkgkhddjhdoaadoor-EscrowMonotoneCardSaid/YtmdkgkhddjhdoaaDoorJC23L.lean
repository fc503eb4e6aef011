/- Parts of the proof: C23L, C23M. -/
import Derived.Test.YtmdkgkhddjhdoaaDoorC23H
import Derived.Test.YtmdkgkhddjhdoaaDoorC23K
set_option linter.all false
/- Chapter 23: two commits of different stations. -/
set_option linter.unusedSimpArgs false
set_option linter.unusedVariables false
set_option maxRecDepth 10000
namespace Go.Abs
open Go

theorem comB_fits {st : Int} {l : List Tri} : Fits (comB st l).ops := by
  unfold Fits comB
  simp only [List.length_map, List.length_take]
  omega
theorem doP_some {s p : List Int} {c : Cm} (h : doP s c = some p) : Good s ∧ 0 ≤ c.st ∧ c.st < 6 ∧ opsP c.st c.ops s = some p ∧ Good p := by
  unfold doP at h
  split at h
  · rename_i hc
    simp only [Bool.and_eq_true, decide_eq_true_eq] at hc
    have hG := svalid_good.1 hc.1
    exact ⟨hG, hc.2.1, hc.2.2, h, opsP_good hG h⟩
  · cases h
theorem doP_mk {s p : List Int} {c : Cm} (hG : Good s) (h0 : 0 ≤ c.st) (h6 : c.st < 6) (h : opsP c.st c.ops s = some p) : doP s c = some p := by
  unfold doP
  rw [if_pos (by simp [svalid_good.2 hG, h0, h6]), h]
theorem Good.fits {s : List Int} (h : Good s) : Fits s := by have := h.len; unfold Fits; omega

set_option maxHeartbeats 4000000 in
theorem l23_EscrowIndependence_true {f f1 f2 : SlF} {b : List Nat} {x y : List Tri} (hb : Fits b) (hx : Fits x) (hy : Fits y) {lv : List Nat} {σ : Sto} {R : Post} : Cw T true i_l23_EscrowIndependence [bytesV f b, trisV f1 x, trisV f2 y] lv σ R ↔ R (.bool true) σ := by
  refine cw_intro T_l23_EscrowIndependence (by simp only [go_sem]) (by simp) ?_; rw [run_unfold l23_EscrowIndependence.main.eq_1]
  have hG := sharesP_good b
  generalize hsd : sharesP b = s at hG
  have hc : Fits (comB 0 x).ops := comB_fits
  have hd : Fits (comB 1 y).ops := comB_fits
  have c0 : (comB 0 x).st = 0 := rfl
  have d0 : (comB 1 y).st = 1 := rfl
  generalize hcd : comB 0 x = c at hc c0
  generalize hdd : comB 1 y = d at hd d0
  cases hp : doP s c with
  | none =>
    cases hq : doP s d with
    | none => simp (maxSteps := 2000000) only [go_sem, ↓reduceIte, Nat.reduceLT, Nat.reduceEqDiff, Nat.reduceLeDiff, Nat.reduceAdd, Nat.reduceSub, Nat.reduceMul, Int.reduceLT, Int.reduceLE, Int.reduceEq, Int.reduceNeg, hb, hx, hy, hsd, hcd, hdd, hc, hd, hp, hq, gotG]
    | some q => simp (maxSteps := 2000000) only [go_sem, ↓reduceIte, Nat.reduceLT, Nat.reduceEqDiff, Nat.reduceLeDiff, Nat.reduceAdd, Nat.reduceSub, Nat.reduceMul, Int.reduceLT, Int.reduceLE, Int.reduceEq, Int.reduceNeg, hb, hx, hy, hsd, hcd, hdd, hc, hd, hp, hq, gotG]
  | some p =>
    obtain ⟨_, p0, p1, p2, pG⟩ := doP_some hp
    cases hq : doP s d with
    | none => simp (maxSteps := 2000000) only [go_sem, ↓reduceIte, Nat.reduceLT, Nat.reduceEqDiff, Nat.reduceLeDiff, Nat.reduceAdd, Nat.reduceSub, Nat.reduceMul, Int.reduceLT, Int.reduceLE, Int.reduceEq, Int.reduceNeg, hb, hx, hy, hsd, hcd, hdd, hc, hd, hp, hq, gotG]
    | some q =>
      obtain ⟨_, q0, q1, q2, qG⟩ := doP_some hq
      obtain ⟨u, u1, u2⟩ := opsP_swap p0 q0 (by rw [c0, d0]; decide) hG.len p2 q2
      have hu := doP_mk pG q0 q1 u1
      have hv := doP_mk qG p0 p1 u2
      have uG := opsP_good pG u1
      simp (maxSteps := 2000000) only [go_sem, ↓reduceIte, Nat.reduceLT, Nat.reduceEqDiff, Nat.reduceLeDiff, Nat.reduceAdd, Nat.reduceSub, Nat.reduceMul, Int.reduceLT, Int.reduceLE, Int.reduceEq, Int.reduceNeg, hb, hx, hy, hsd, hcd, hdd, hc, hd, hp, hq, hu, hv, gotG, svalid_good.2 pG, svalid_good.2 qG, pG.fits, qG.fits, uG.fits]
end Go.Abs
/- Chapter 23: greater shares. -/
set_option linter.unusedSimpArgs false
set_option linter.unusedVariables false
set_option maxRecDepth 10000
namespace Go.Abs
open Go

def addL (t s : List Int) : List Int := List.zipWith (fun a b => a + b) t s
theorem addL_len {t s : List Int} (ht : t.length = 6) (hs : s.length = 6) : (addL t s).length = 6 := by simp [addL, ht, hs]
theorem addL_get {t s : List Int} {i : Nat} (h : i < (addL t s).length) (h1 : i < t.length) (h2 : i < s.length) : (addL t s)[i] = t[i] + s[i] := by simp [addL]

theorem l23_EscrowMonotone_loop0 {Q : Post3} {k : List Item} {f1 f2 : AVal} {s t : List Int} (hs : s.length = 6) (ht : t.length = 6) (bs : ∀ n ∈ s, 0 ≤ n ∧ n ≤ 9) (bt : ∀ n ∈ t, 0 ≤ n ∧ n ≤ 9) : ∀ i : Nat, i ≤ 6 → ∀ o : List Int, o.length = 6 → o.drop i = t.drop i → 
    (Run T Q (.inLoop l23_EscrowMonotone.b0 :: .inBlock 0 :: k) (mkE 98 [(1, f1), (2, f2), (7, .bool true), (8, ints .lst s), (9, .ref 1 6 0 6 1), (10, .int .i64 i)]) [.dead, cellsI o] ↔
     Run T Q k (mkE 98 [(1, f1), (2, f2), (7, .bool true), (8, ints .lst s), (9, .ref 1 6 0 6 1), (10, .int .i64 6), (25, .bool false)]) [.dead, cellsI (o.take i ++ (addL t s).drop i)]) := by
  refine up_ind ?_ fun i hi ih => ?_
  · intro o ho hd
    rw [run_round, run_unfold l23_EscrowMonotone.b0.eq_1]
    rw [List.take_of_length_le (by omega), List.drop_eq_nil_of_le (by rw [addL_len ht hs]; exact Nat.le_refl _), List.append_nil]
    simp (maxSteps := 2000000) only [go_sem, ↓reduceIte, Nat.reduceLT, Nat.reduceEqDiff, Nat.reduceLeDiff, Nat.reduceAdd, Nat.reduceSub, Nat.reduceMul, Int.reduceLT, Int.reduceLE, Int.reduceEq, Int.reduceNeg, ho, l23_EscrowMonotone.c0.eq_1]
  · intro o ho hd
    have h1 : i < s.length := by omega
    have h2 : i < o.length := by omega
    have h3 : i < t.length := by omega
    have hot : o[i] = t[i] := by
      rw [List.drop_eq_getElem_cons h2, List.drop_eq_getElem_cons h3] at hd
      exact (List.cons.inj hd).1
    have g1 := bs s[i] (List.getElem_mem h1)
    have g2 := bt t[i] (List.getElem_mem h3)
    have w : IntKind.i64.wrap (o[i] + s[i]) = t[i] + s[i] := by rw [hot]; exact wrap_i64 (by omega) (by omega)
    rw [run_round, run_unfold l23_EscrowMonotone.b0.eq_1]
    simp (maxSteps := 2000000) only [go_sem, ↓reduceIte, Nat.reduceLT, Nat.reduceEqDiff, Nat.reduceLeDiff, Nat.reduceAdd, Nat.reduceSub, Nat.reduceMul, Int.reduceLT, Int.reduceLE, Int.reduceEq, Int.reduceNeg, ho, h1, h2, w, hi, show ((i : Int) < 6) by omega, show i + 1 ≤ 6 by omega, wrap_succ (show i < 9223372036854775807 by omega)]
    have := ih (o.set i (t[i] + s[i])) (by simpa using ho) (by
      rw [List.drop_set_of_lt (by omega)]
      have := congrArg List.tail hd
      simpa using this)
    have hl : i < (addL t s).length := by rw [addL_len ht hs]; omega
    rw [take_set_succ h2, List.append_assoc] at this
    rw [List.drop_eq_getElem_cons hl, addL_get hl h3 h1]
    exact this

theorem wrap_u64 {x : Int} (h1 : 0 ≤ x) (h2 : x < 18446744073709551616) : IntKind.u64.wrap x = x := by
  have e1 : (2 : Int) ^ IntKind.u64.bits = 18446744073709551616 := by decide
  have e3 : IntKind.u64.signed = false := rfl
  simp only [IntKind.wrap, e1, e3, Bool.false_and]
  have : x % 18446744073709551616 = x := Int.emod_eq_of_lt h1 h2
  simp [this]
theorem deep6 {σ : Sto} {y : List Int} {o : Nat} (hy : y.length = 6) (ho : σ[o]? = some (cellsI y)) : deepA 64 σ (.ref o 6 0 6 1) = some (ints .lst y, σ.set o .dead) := by
  have h := deep_ones (n := 62) (g := fun n : Int => AVal.int .i64 n) (l := y) (fun _ => rfl) ho
  rw [hy] at h
  rw [show (64 : Nat) = 62 + 2 from rfl, h, ints, sv_lst]

theorem l23_EscrowMonotone_loop1 {s t p q : List Int} (hs : s.length = 6) (ht : t.length = 6) (hp : p.length = 6) (hq : q.length = 6) {c5 : List AVal} (hd : ∀ (i : Nat) (h1 : i < s.length) (h2 : i < t.length) (h3 : i < p.length) (h4 : i < q.length), q[i] - p[i] = t[i] - s[i])
    (hw : ∀ (i : Nat) (h1 : i < s.length) (h2 : i < t.length) (h3 : i < p.length) (h4 : i < q.length), IntKind.i64.wrap (q[i] - p[i]) = q[i] - p[i]) : ∀ i : Nat, i ≤ 6 →
    Run T (Res [.tmp 6] (.bool true)) (.inLoop l23_EscrowMonotone.b1 :: l23_EscrowMonotone.k1) (mkE 98 [(7, .bool true), (8, ints .lst s), (9, ints .lst t), (12, .ptr 3 2 0), (13, .ptr 4 2 0), (14, .int .i64 i)])
      [.dead, .dead, .cells false c5, .cells false [ints .lst p, .int .i64 0], .cells false [ints .lst q, .int .i64 0]] := by
  refine up_ind ?_ fun i hi ih => ?_
  · rw [run_round, run_unfold l23_EscrowMonotone.b1.eq_1]
    simp (maxSteps := 2000000) only [go_sem, ↓reduceIte, Nat.reduceLT, Nat.reduceEqDiff, Nat.reduceLeDiff, Nat.reduceAdd, Nat.reduceSub, Nat.reduceMul, Int.reduceLT, Int.reduceLE, Int.reduceEq, Int.reduceNeg, run_unfold l23_EscrowMonotone.c0.eq_1, run_unfold l23_EscrowMonotone.c1.eq_1, run_unfold l23_EscrowMonotone.c2.eq_1, l23_EscrowMonotone.k0, l23_EscrowMonotone.k1, ht]
  · have h1 : i < s.length := by omega
    have h2 : i < t.length := by omega
    have h3 : i < p.length := by omega
    have h4 : i < q.length := by omega
    have e1 := hd i h1 h2 h3 h4
    have e2 := hw i h1 h2 h3 h4
    rw [run_round, run_unfold l23_EscrowMonotone.b1.eq_1]
    simp (maxSteps := 2000000) only [go_sem, ↓reduceIte, Nat.reduceLT, Nat.reduceEqDiff, Nat.reduceLeDiff, Nat.reduceAdd, Nat.reduceSub, Nat.reduceMul, Int.reduceLT, Int.reduceLE, Int.reduceEq, Int.reduceNeg, h1, h2, h3, h4, e1.symm, e2, wrap_succ (show i < 9223372036854775807 by omega)]
    exact ih

set_option maxHeartbeats 4000000 in
theorem l23_EscrowMonotone_true {f f1 f2 : SlF} {b m : List Nat} {x : List Tri} (hb : Fits b) (hm : Fits m) (hx : Fits x) {lv : List Nat} {σ : Sto} {R : Post} : Cw T true i_l23_EscrowMonotone [bytesV f b, bytesV f1 m, trisV f2 x] lv σ R ↔ R (.bool true) σ := by
  refine cw_intro T_l23_EscrowMonotone (by simp only [go_sem]) (by simp) ?_; rw [run_unfold l23_EscrowMonotone.main.eq_1]
  have hG := sharesP_good b
  have hS := sharesP_bnd b
  have hT := sharesP_bnd m
  have lT := sharesP_len m
  have hsh := fun (σ : Sto) (Q : Post3) (k : List Item) (os : List AOper) (d : Option Nat) (e : Env) => callK_shared (T := T) (Q := Q) (k := k) (os := os) (d := d) (e := e) (r23_Shares_shared (f := f) (σ := σ) hb)
  have hsm := fun (σ : Sto) (Q : Post3) (k : List Item) (os : List AOper) (d : Option Nat) (e : Env) => callK_shared (T := T) (Q := Q) (k := k) (os := os) (d := d) (e := e) (r23_Shares_shared (f := f1) (σ := σ) hm)
  generalize sharesP b = s at hG hS hsh
  generalize sharesP m = t at hT lT hsm
  have lS := hG.len
  simp (maxSteps := 2000000) only [go_sem, ↓reduceIte, Nat.reduceLT, Nat.reduceEqDiff, Nat.reduceLeDiff, Nat.reduceAdd, Nat.reduceSub, Nat.reduceMul, Int.reduceLT, Int.reduceLE, Int.reduceEq, Int.reduceNeg, hsh, hsm]
  refine afterG_of (deep6 lS rfl) ?_
  simp (maxSteps := 2000000) only [go_sem, ↓reduceIte, Nat.reduceLT, Nat.reduceEqDiff, Nat.reduceLeDiff, Nat.reduceAdd, Nat.reduceSub, Nat.reduceMul, Int.reduceLT, Int.reduceLE, Int.reduceEq, Int.reduceNeg]
  refine (l23_EscrowMonotone_loop0 lS lT hS hT 0 (by omega) t lT rfl).2 ?_
  rw [List.take_zero, List.nil_append, List.drop_zero]
  have lA := addL_len lT lS
  have hm4 : m.length % 4 < 4 := Nat.mod_lt _ (by decide)
  have e1 : IntKind.u64.wrap ((m.length : Nat) : Int) = (m.length : Int) := wrap_u64 (by omega) (by have := hm; unfold Fits at this; omega)
  have e2 : IntKind.i64.wrap (Int.tmod (m.length : Int) 4) = ((m.length % 4 : Nat) : Int) := by
    have : Int.tmod (m.length : Int) 4 = ((m.length % 4 : Nat) : Int) := rfl
    rw [this, wrap_i64 (by omega) (by omega)]
  simp (maxSteps := 2000000) only [go_sem, ↓reduceIte, Nat.reduceLT, Nat.reduceEqDiff, Nat.reduceLeDiff, Nat.reduceAdd, Nat.reduceSub, Nat.reduceMul, Int.reduceLT, Int.reduceLE, Int.reduceEq, Int.reduceNeg, l23_EscrowMonotone.c2.eq_1, e1, e2, binV_rem, hx, show ¬ ((4 : Int) = 0) by omega]
  refine afterG_of (deep6 lA rfl) ?_
  have hc : Fits (comB ((m.length % 4 : Nat) : Int) x).ops := comB_fits
  generalize hcd : comB ((m.length % 4 : Nat) : Int) x = c at hc
  cases hp : doP s c with
  | none =>
    cases hq : doP (addL t s) c with
    | none => simp (maxSteps := 2000000) only [go_sem, ↓reduceIte, Nat.reduceLT, Nat.reduceEqDiff, Nat.reduceLeDiff, Nat.reduceAdd, Nat.reduceSub, Nat.reduceMul, Int.reduceLT, Int.reduceLE, Int.reduceEq, Int.reduceNeg, hc, hp, hq, gotG, run_unfold l23_EscrowMonotone.c0.eq_1, run_unfold l23_EscrowMonotone.c1.eq_1, run_unfold l23_EscrowMonotone.c2.eq_1, l23_EscrowMonotone.k0, l23_EscrowMonotone.k1]
    | some q => simp (maxSteps := 2000000) only [go_sem, ↓reduceIte, Nat.reduceLT, Nat.reduceEqDiff, Nat.reduceLeDiff, Nat.reduceAdd, Nat.reduceSub, Nat.reduceMul, Int.reduceLT, Int.reduceLE, Int.reduceEq, Int.reduceNeg, hc, hp, hq, gotG, run_unfold l23_EscrowMonotone.c0.eq_1, run_unfold l23_EscrowMonotone.c1.eq_1, run_unfold l23_EscrowMonotone.c2.eq_1, l23_EscrowMonotone.k0, l23_EscrowMonotone.k1]
  | some p =>
    obtain ⟨_, p0, p1, p2, pG⟩ := doP_some hp
    have hA : ∀ (i : Nat) (h : i < (addL t s).length), 0 ≤ (addL t s)[i] ∧ (addL t s)[i] ≤ 18 ∧ s.getD i 0 ≤ (addL t s)[i] := by
      intro i h
      have h1 : i < t.length := by omega
      have h2 : i < s.length := by omega
      rw [addL_get h h1 h2, getD_get h2]
      have := hT t[i] (List.getElem_mem h1)
      have := hS s[i] (List.getElem_mem h2)
      omega
    have aG : Good (addL t s) := by
      have hb18 : ∀ n ∈ addL t s, n ≤ 18 := fun n hn => by
        obtain ⟨i, h, rfl⟩ := List.mem_iff_getElem.1 hn
        exact (hA i h).2.1
      refine ⟨lA, fun n hn => ?_, ?_⟩
      · obtain ⟨i, h, rfl⟩ := List.mem_iff_getElem.1 hn
        exact (hA i h).1
      · have := sum_bnd hb18
        rw [lA] at this
        unfold maxN
        omega
    have hci : c.st.toNat < (addL t s).length := by omega
    obtain ⟨z, z1, zf⟩ := opsP_far lS lA (by rw [getD_get hci]; exact (hA _ hci).2.2) p2
    have hq := doP_mk aG p0 p1 z1
    have zG := opsP_good aG z1
    have hd : ∀ (i : Nat) (h1 : i < s.length) (h2 : i < (addL t s).length) (h3 : i < p.length) (h4 : i < z.length), z[i] - p[i] = (addL t s)[i] - s[i] := by
      intro i h1 h2 h3 h4
      have := zf.eq i
      rwa [getD_get h1, getD_get h2, getD_get h3, getD_get h4] at this
    have hw : ∀ (i : Nat) (h1 : i < s.length) (h2 : i < (addL t s).length) (h3 : i < p.length) (h4 : i < z.length), IntKind.i64.wrap (z[i] - p[i]) = z[i] - p[i] := by
      intro i h1 h2 h3 h4
      rw [hd i h1 h2 h3 h4]
      have h5 : i < t.length := by omega
      rw [addL_get h2 h5 h1]
      have := hT t[i] (List.getElem_mem h5)
      exact wrap_i64 (by omega) (by omega)
    simp (maxSteps := 2000000) only [go_sem, ↓reduceIte, Nat.reduceLT, Nat.reduceEqDiff, Nat.reduceLeDiff, Nat.reduceAdd, Nat.reduceSub, Nat.reduceMul, Int.reduceLT, Int.reduceLE, Int.reduceEq, Int.reduceNeg, hc, hp, hq, gotG, svalid_good.2 pG, svalid_good.2 zG, pG.fits, zG.fits]
    exact l23_EscrowMonotone_loop1 lS lA pG.len zG.len hd hw 0 (by omega)
end Go.Abs
