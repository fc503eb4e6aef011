/- Walks of chapter 40: JoinParts. -/
import Derived.Test.YtjfiifcehdjhpaaC40M
import Derived.Test.YtjfiifcehdjhpaaAbsVal2
set_option linter.all false
set_option linter.unusedSimpArgs false
set_option linter.unusedVariables false
set_option maxRecDepth 100000
set_option maxHeartbeats 8000000
namespace Go.Abs
open Go
attribute [local go_sem_proc] Nat.reduceLT Nat.reduceEqDiff Nat.reduceLeDiff Nat.reduceAdd Nat.reduceSub Nat.reduceMul Int.reduceLT Int.reduceLE Int.reduceEq Int.reduceNeg
attribute [local go_sem_proc ↓] reduceIte

theorem kmod {k n : Nat} (h : k < 256) (hn : n ≤ 20) : IntKind.i64.wrap ((IntKind.i64.wrap (k : Int)).tmod (IntKind.i64.wrap ((n : Int) + 1))) = ((k % (n + 1) : Nat) : Int) := by
 rw [wrap_nat (by omega), wrap_succ (by omega)]
 exact wrap_nat (by have := Nat.mod_le k (n + 1); omega)
theorem kmod' {k n : Nat} (h : k < 256) (hn : n ≤ 20) : (IntKind.i64.wrap (k : Int)).tmod (IntKind.i64.wrap ((n : Int) + 1)) = ((k % (n + 1) : Nat) : Int) := by
 rw [wrap_nat (by omega), wrap_succ (by omega)]; rfl
theorem X12_spec {z : Cas} {kp : Nat} (h : z.Ok) (hk : kp < 256) {lv : List Nat} {σ : Sto} {R : Post} : Cw T true i_X12 [z.v, .int .u8 (kp : Int)] lv σ R ↔ R (.bool true) σ := by
 refine cw_intro T_X12 (by simp only [go_sem]) (by simp) ?_; rw [run_unfold X12.main.eq_1]
 have h2 := z.two
 have hmade := fun {Q : Post3} {k : List Item} {os : List AOper} {d : Option Nat} {e : Env} {σ : Sto} => X45_call (z := z) h (Q := Q) (k := k) (os := os) (d := d) (e := e) (σ := σ)
 generalize z.A = a at h2 hmade
 generalize z.B = b at h2 hmade
 generalize z.i = i at h2 hmade
 generalize z.j = j at h2 hmade
 have la : a.length ≤ 20 := h2.ha.n
 have lb : b.length ≤ 20 := h2.hb.n
 have km := kmod hk la
 have km' := kmod' hk la
 have kn' := kmod' hk lb
 have hA := h2.sub (List.take_sublist (kp % (a.length + 1)) a) (List.Sublist.refl b)
 have hB := h2.sub (List.drop_sublist (kp % (a.length + 1)) a) (List.Sublist.refl b)
 have hC := h2.sub (List.Sublist.refl a) (List.take_sublist (kp % (b.length + 1)) b)
 have n0 : ¬ IntKind.i64.wrap ((a.length : Int) + 1) = 0 := by rw [wrap_succ (by omega)]; omega
 have n1 : ¬ IntKind.i64.wrap ((b.length : Int) + 1) = 0 := by rw [wrap_succ (by omega)]; omega
 have s1 : kp % (a.length + 1) ≤ a.length := by have := Nat.mod_lt kp (show 0 < a.length + 1 by omega); omega
 have s2 : kp % (b.length + 1) ≤ b.length := by have := Nat.mod_lt kp (show 0 < b.length + 1 by omega); omega
 simp (maxSteps := 2000000) only [go_sem, hmade, km, km', kn', n0, n1, slice_sv_take s1, slice_sv_drop s1, slice_sv_take s2, X48_call hA.ok hA.len4, X48_call hB.ok hB.len4, X48_call hC.ok hC.len4, X48_call h2.ok h2.len4]
 have f1 := hA.fitJ
 have f2 := hB.fitJ
 have f3 := h2.fitJ
 have l1 := hA.len
 have l2 := hB.len
 have lc := join_part (a := a) (b := b) (i := i) (j := j) (kp % (b.length + 1))
 have ej := join_app (a := a.take (kp % (a.length + 1))) (a' := a.drop (kp % (a.length + 1))) (b := b) (i := i) (j := j) (n := -1)
 rw [List.take_append_drop] at ej
 rw [ej] at f3 lc ⊢
 generalize joinL (a.take (kp % (a.length + 1))) b i j (-1) = X at *
 generalize joinL (a.drop (kp % (a.length + 1))) b i j (-1) = Y at *
 generalize joinL a (b.take (kp % (b.length + 1))) i j (-1) = Z at *
 have ap1 := fun {σ : Sto} (hσ : σ[6]? = some (.cells false [])) => appendV_ones (σ := σ) (o := 6) (bytes := 24) (f := flO X) (g := fun p : SlF × List Val => rowA p.1 p.2) (X := []) (Y := lstR X) (fun _ => sv_one') hσ (by simp only [List.length_nil, List.length_map, maxBytes]; omega)
 have ap2 := fun {σ : Sto} (hσ : σ[6]? = some (.cells false ((lstR X).map fun p => rowA p.1 p.2))) => appendV_ones (σ := σ) (o := 6) (bytes := 24) (f := flO Y) (g := fun p : SlF × List Val => rowA p.1 p.2) (X := lstR X) (Y := lstR Y) (fun _ => sv_one') hσ (by simp only [List.length_map, maxBytes]; omega)
 simp only [List.length_nil, List.nil_append] at ap1
 have hlX : (lstR X).length = X.length := List.length_map ..
 have hl2 : (lstR X ++ lstR Y).length = X.length + Y.length := by simp
 rw [hlX] at ap1 ap2
 rw [hl2] at ap2
 have hsn : ∀ {σ : Sto}, σ[6]? = some (.cells false ((lstR X ++ lstR Y).map fun p => rowA p.1 p.2)) → snapA σ snapDepth (.ref 6 (X.length + Y.length) 0 (X.length + Y.length) 1) = some (rowsA .lst (lstR X ++ lstR Y)) := by
  intro σ hσ
  have := snap_val (n := 62) (o := 6) (σ := σ) (l := lstR X ++ lstR Y) hσ
  rwa [hl2] at this
 have hsame : ((lstR X ++ lstR Y).map Prod.snd) = (lstR (X ++ Y)).map Prod.snd := by simp only [lstR, List.map_append]
 have f3' : RowsFit (lstR X ++ lstR Y) := by rw [lstR, List.map_append] at f3; exact f3
 rw [ap1 rfl]
 simp (maxSteps := 2000000) only [go_sem]
 rw [ap2 rfl]
 simp (maxSteps := 2000000) only [go_sem]
 refine (callK_live T_X15 (as := [rowsA .lst (lstR X ++ lstR Y), rowsA (flO (X ++ Y)) (lstR (X ++ Y))]) (fun {lv σ R} => X15_spec f3' f3) ?_ (by simp (maxSteps := 2000000) only [go_sem]) rfl).2 ?_
 ·simp (maxSteps := 2000000) only [go_sem]
  rw [show (64 : Nat) = snapDepth from rfl, hsn rfl]
 have lc' : ((Z.length : Nat) : Int) ≤ (((X ++ Y).length : Nat) : Int) := by omega
 rw [hsame, decide_eq_true rfl]
 simp (maxSteps := 2000000) only [go_sem, lc']
@[go_sem] theorem X12_call {z : Cas} {kp : Nat} (h : z.Ok) (hk : kp < 256) {Q : Post3} {k : List Item} {os : List AOper} {d : Option Nat} {e : Env} {σ : Sto} : CallK T Q k os d e σ true i_X12 [z.v, .int .u8 (kp : Int)] ↔ Run T Q (.ops os :: k) (put e d (.bool true)) σ := X12_spec h hk


end Go.Abs
