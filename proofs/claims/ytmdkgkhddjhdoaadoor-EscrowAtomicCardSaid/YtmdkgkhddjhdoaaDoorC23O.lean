/- Chapter 23: a commit's parts. -/
import Derived.Test.YtmdkgkhddjhdoaaDoorJC23L
import Derived.Test.YtmdkgkhddjhdoaaDoorAbsVal2
set_option linter.all false
set_option linter.unusedSimpArgs false
set_option linter.unusedVariables false
set_option maxRecDepth 10000
namespace Go.Abs
open Go

theorem comB_slices {st : Int} {x : List Tri} {n : Nat} (hn : n ≤ (comB st x).ops.length) : ∃ f1 f2, (∀ σ : Sto, sliceV 9 (oprs (comB st x).f (comB st x).ops) none (some (.int .i64 (n : Int))) none σ = some (oprs f1 ((comB st x).ops.take n), σ)) ∧
    ∀ σ : Sto, sliceV 9 (oprs (comB st x).f (comB st x).ops) (some (.int .i64 (n : Int))) none none σ = some (oprs f2 ((comB st x).ops.drop n), σ) := by
  cases x with
  | nil =>
    have : n = 0 := by simpa [comB] using hn
    subst this
    exact ⟨.nil, .nil, fun _ => rfl, fun _ => rfl⟩
  | cons a r =>
    have hf : (comB st (a :: r)).f = .lst := rfl
    rw [hf]
    exact ⟨.lst, .lst, fun _ => slice_sv_take hn, fun _ => slice_sv_drop hn⟩

theorem doP_parts {s : List Int} {c : Cm} {f1 f2 : SlF} {n : Nat} : doP s c = (doP s ⟨c.st, c.seq, c.pf, c.past, c.ver, f1, c.ops.take n⟩).bind fun y => doP y ⟨c.st, c.seq, c.pf, c.past, c.ver, f2, c.ops.drop n⟩ := by
  by_cases h : (svalid s && (decide (0 ≤ c.st) && decide (c.st < 6))) = true
  · have h0 : doP s c = opsP c.st c.ops s := by unfold doP; rw [if_pos h]
    have h1 : doP s ⟨c.st, c.seq, c.pf, c.past, c.ver, f1, c.ops.take n⟩ = opsP c.st (c.ops.take n) s := by unfold doP; rw [if_pos h]
    rw [h0, h1]
    conv => lhs; rw [← List.take_append_drop n c.ops, opsP_append]
    cases hp : opsP c.st (c.ops.take n) s with
    | none => rfl
    | some y =>
      simp only [Bool.and_eq_true] at h
      have hy := svalid_good.2 (opsP_good (svalid_good.1 h.1) hp)
      simp only [Option.bind_some]
      unfold doP
      rw [if_pos (by simp only [hy, h.2.1, h.2.2, Bool.and_self])]
  · have h0 : doP s c = none := by unfold doP; rw [if_neg h]
    have h1 : doP s ⟨c.st, c.seq, c.pf, c.past, c.ver, f1, c.ops.take n⟩ = none := by unfold doP; rw [if_neg h]
    rw [h0, h1]; rfl

theorem cellsM_pure (c : Cm) : AVal.pures (cellsM c) = true := by
  simp only [cellsM, AVal.pures, AVal.namesL, AVal.names, sv_pure, Bool.and_self]

set_option maxHeartbeats 4000000 in
theorem l23_EscrowAtomic_true {f f1 : SlF} {b : List Nat} {x : List Tri} {k : Nat} (hb : Fits b) (hx : Fits x) (hk : k < 256) {lv : List Nat} {σ : Sto} {R : Post} : Cw T true i_l23_EscrowAtomic [bytesV f b, trisV f1 x, .int .u8 (k : Int)] lv σ R ↔ R (.bool true) σ := by
  refine cw_intro T_l23_EscrowAtomic (by simp only [go_sem]) (by simp) ?_; rw [run_unfold l23_EscrowAtomic.main.eq_1]
  have hG := sharesP_good b
  generalize hsd : sharesP b = s at hG
  have hk4 : k % 4 < 4 := Nat.mod_lt _ (by decide)
  have e1 : IntKind.i64.wrap (Int.tmod (k : Int) 4) = ((k % 4 : Nat) : Int) := by
    have : Int.tmod (k : Int) 4 = ((k % 4 : Nat) : Int) := rfl
    rw [this, wrap_i64 (by omega) (by omega)]
  have e2 : Int.tdiv (k : Int) 4 = ((k / 4 : Nat) : Int) := rfl
  have e3 : IntKind.u8.wrap ((k / 4 : Nat) : Int) = ((k / 4 : Nat) : Int) := by
    have : (2 : Int) ^ IntKind.u8.bits = 256 := by decide
    have e : IntKind.u8.signed = false := rfl
    simp only [IntKind.wrap, this, e, Bool.false_and]
    simp; omega
  have e4 : IntKind.i64.wrap ((k / 4 : Nat) : Int) = ((k / 4 : Nat) : Int) := wrap_i64 (by omega) (by omega)
  have hc : Fits (comB ((k % 4 : Nat) : Int) x).ops := comB_fits
  have e5 : IntKind.i64.wrap (((comB ((k % 4 : Nat) : Int) x).ops.length : Int) + 1) = (((comB ((k % 4 : Nat) : Int) x).ops.length + 1 : Nat) : Int) := wrap_succ (by have := hc; unfold comB; simp; omega)
  have hn : k / 4 % ((comB ((k % 4 : Nat) : Int) x).ops.length + 1) ≤ (comB ((k % 4 : Nat) : Int) x).ops.length := Nat.le_of_lt_succ (Nat.mod_lt _ (by omega))
  obtain ⟨g1, g2, sl1, sl2⟩ := comB_slices hn
  have e6 : ∀ m : Nat, Int.tmod ((k / 4 : Nat) : Int) ((m + 1 : Nat) : Int) = ((k / 4 % (m + 1) : Nat) : Int) := fun m => rfl
  generalize hcd : comB ((k % 4 : Nat) : Int) x = c at hc e5 hn sl1 sl2
  have e6 := e6 c.ops.length
  have e7 : ¬ (((c.ops.length + 1 : Nat) : Int) = 0) := by omega
  generalize k / 4 % (c.ops.length + 1) = n at hn sl1 sl2 e6
  have hpt := doP_parts (s := s) (c := c) (f1 := g1) (f2 := g2) (n := n)
  have hf1 : Fits (c.ops.take n) := by have := hc; unfold Fits at *; rw [List.length_take]; omega
  have hf2 : Fits (c.ops.drop n) := by have := hc; unfold Fits at *; rw [List.length_drop]; omega
  have dd1 := fun (Q : Post3) (k : List Item) (os : List AOper) (d : Option Nat) (e : Env) (σ : Sto) => l23_did_call (f := .lst) (s := s) (c := ⟨c.st, c.seq, c.pf, c.past, c.ver, g1, c.ops.take n⟩) hf1 (Q := Q) (k := k) (os := os) (d := d) (e := e) (σ := σ)
  have hsv := svalid_good.2 hG
  have hpl : playL (stP s) [c] = ((doP s c).getD s, [(doP s c).isSome]) := by simp [stP, hsv, playL]
  have hfl : flP s = .lst := by simp [flP, hsv]
  have hcl : ∀ c' ∈ [c], Fits c'.ops := by
    intro c' h
    rw [List.mem_singleton] at h
    subst h
    exact hc
  have dpl := fun (Q : Post3) (k : List Item) (os : List AOper) (d : Option Nat) (e : Env) (σ : Sto) => l23_played_call (f := .lst) (g := .lst) (s := s) (l := [c]) (by simp) hcl (Q := Q) (k := k) (os := os) (d := d) (e := e) (σ := σ)
  rw [hpl, hfl, show cms .lst [c] = .list 5 (List.map (fun x => .agg (cellsM x)) [c]) from rfl] at dpl
  have hfz := fun (σ : Sto) (h : σ[6]? = some (.cells false ([c].flatMap cellsM))) => deep_structs (n := 62) (o := 6) (l := [c]) (g := cellsM) (k := 5) (σ := σ) (by decide) (by decide) (fun _ => rfl) cellsM_pure h
  cases hp : doP s ⟨c.st, c.seq, c.pf, c.past, c.ver, g1, c.ops.take n⟩ with
  | none =>
    rw [hp] at hpt dd1
    rw [Option.bind_none] at hpt
    simp (maxSteps := 2000000) only [go_sem, ↓reduceIte, Nat.reduceLT, Nat.reduceEqDiff, Nat.reduceLeDiff, Nat.reduceAdd, Nat.reduceSub, Nat.reduceMul, Int.reduceLT, Int.reduceLE, Int.reduceEq, Int.reduceNeg, hb, hx, hsd, hcd, binV_rem, binV_quo, e1, e2, e3, e4, e5, e6, e7, sl1, sl2, hc, hpt, dd1, gotG, show ¬ ((4 : Int) = 0) by omega]
    simp (maxSteps := 2000000) only [go_sem, ↓reduceIte, Nat.reduceLT, Nat.reduceEqDiff, Nat.reduceLeDiff, Nat.reduceAdd, Nat.reduceSub, Nat.reduceMul, Int.reduceLT, Int.reduceLE, Int.reduceEq, Int.reduceNeg, run_unfold l23_EscrowAtomic.c0.eq_1]
    refine afterG_of (hfz _ rfl) ?_
    rw [hpt] at dpl
    simp only [List.map_cons, List.map_nil, Option.getD_none, Option.isSome_none] at dpl
    have al := fun (Q : Post3) (k : List Item) (os : List AOper) (d : Option Nat) (e : Env) (σ : Sto) => r23_Alike_call (f := .nil) (g := .nil) (a := []) (b := []) (v := 230) (w := 230) (by decide) (Q := Q) (k := k) (os := os) (d := d) (e := e) (σ := σ)
    simp only [ints_nil] at al
    simp (maxSteps := 2000000) only [go_sem, ↓reduceIte, Nat.reduceLT, Nat.reduceEqDiff, Nat.reduceLeDiff, Nat.reduceAdd, Nat.reduceSub, Nat.reduceMul, Int.reduceLT, Int.reduceLE, Int.reduceEq, Int.reduceNeg, dpl, al, boolsV, List.map_cons, List.map_nil, List.length_cons, List.length_nil, iaddrV_c0, hG.fits]
  | some y =>
    obtain ⟨_, p0, p1, p2, yG⟩ := doP_some hp
    have dd2 := fun (Q : Post3) (k : List Item) (os : List AOper) (d : Option Nat) (e : Env) (σ : Sto) => l23_did_call (f := .lst) (s := y) (c := ⟨c.st, c.seq, c.pf, c.past, c.ver, g2, c.ops.drop n⟩) hf2 (Q := Q) (k := k) (os := os) (d := d) (e := e) (σ := σ)
    rw [hp, Option.bind_some] at hpt
    rw [hp] at dd1
    rw [← hpt] at dd2
    cases hd : doP s c with
    | none =>
      rw [hd] at dd2 dpl
      simp only [List.map_cons, List.map_nil, Option.getD_none, Option.isSome_none] at dpl
      have al := fun (Q : Post3) (k : List Item) (os : List AOper) (d : Option Nat) (e : Env) (σ : Sto) => r23_Alike_call (f := .nil) (g := .nil) (a := []) (b := []) (v := 230) (w := 230) (by decide) (Q := Q) (k := k) (os := os) (d := d) (e := e) (σ := σ)
      simp only [ints_nil] at al
      simp (maxSteps := 2000000) only [go_sem, ↓reduceIte, Nat.reduceLT, Nat.reduceEqDiff, Nat.reduceLeDiff, Nat.reduceAdd, Nat.reduceSub, Nat.reduceMul, Int.reduceLT, Int.reduceLE, Int.reduceEq, Int.reduceNeg, hb, hx, hsd, hcd, binV_rem, binV_quo, e1, e2, e3, e4, e5, e6, e7, sl1, sl2, hc, hd, dd1, dd2, gotG, show ¬ ((4 : Int) = 0) by omega, svalid_good.2 yG, yG.fits]
      simp (maxSteps := 2000000) only [go_sem, ↓reduceIte, Nat.reduceLT, Nat.reduceEqDiff, Nat.reduceLeDiff, Nat.reduceAdd, Nat.reduceSub, Nat.reduceMul, Int.reduceLT, Int.reduceLE, Int.reduceEq, Int.reduceNeg, run_unfold l23_EscrowAtomic.c0.eq_1]
      refine afterG_of (hfz _ rfl) ?_
      simp (maxSteps := 2000000) only [go_sem, ↓reduceIte, Nat.reduceLT, Nat.reduceEqDiff, Nat.reduceLeDiff, Nat.reduceAdd, Nat.reduceSub, Nat.reduceMul, Int.reduceLT, Int.reduceLE, Int.reduceEq, Int.reduceNeg, dpl, al, boolsV, List.map_cons, List.map_nil, List.length_cons, List.length_nil, iaddrV_c0, hG.fits]
    | some z =>
      obtain ⟨_, _, _, _, zG⟩ := doP_some hd
      rw [hd] at dd2 dpl
      simp only [List.map_cons, List.map_nil, Option.getD_some, Option.isSome_some] at dpl
      simp (maxSteps := 2000000) only [go_sem, ↓reduceIte, Nat.reduceLT, Nat.reduceEqDiff, Nat.reduceLeDiff, Nat.reduceAdd, Nat.reduceSub, Nat.reduceMul, Int.reduceLT, Int.reduceLE, Int.reduceEq, Int.reduceNeg, hb, hx, hsd, hcd, binV_rem, binV_quo, e1, e2, e3, e4, e5, e6, e7, sl1, sl2, hc, hd, dd1, dd2, gotG, show ¬ ((4 : Int) = 0) by omega, svalid_good.2 yG, yG.fits]
      simp (maxSteps := 2000000) only [go_sem, ↓reduceIte, Nat.reduceLT, Nat.reduceEqDiff, Nat.reduceLeDiff, Nat.reduceAdd, Nat.reduceSub, Nat.reduceMul, Int.reduceLT, Int.reduceLE, Int.reduceEq, Int.reduceNeg, run_unfold l23_EscrowAtomic.c0.eq_1]
      refine afterG_of (hfz _ rfl) ?_
      simp (maxSteps := 2000000) only [go_sem, ↓reduceIte, Nat.reduceLT, Nat.reduceEqDiff, Nat.reduceLeDiff, Nat.reduceAdd, Nat.reduceSub, Nat.reduceMul, Int.reduceLT, Int.reduceLE, Int.reduceEq, Int.reduceNeg, dpl, boolsV, List.map_cons, List.map_nil, List.length_cons, List.length_nil, iaddrV_c0, hG.fits, zG.fits]
end Go.Abs
