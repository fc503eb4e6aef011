/- Walks of chapter 40: JoinPartners. -/
import Derived.Test.YtjfiifcehdjhpaaC40M
import Derived.Test.YtjfiifcehdjhpaaAbsVal2
set_option linter.all false
set_option linter.unusedSimpArgs false
set_option linter.unusedVariables false
set_option maxRecDepth 100000
set_option maxHeartbeats 8000000
namespace Go.Abs
open Go
attribute [local go_sem_proc] Nat.reduceLT Nat.reduceEqDiff Nat.reduceLeDiff Nat.reduceAdd Nat.reduceSub Nat.reduceMul Int.reduceLT Int.reduceLE Int.reduceEq Int.reduceNeg
attribute [local go_sem_proc ↓] reduceIte

theorem slice_sv_one {α : Type} {g : α → AVal} {l : List α} {kd kd' : IntKind} {k n : Nat} {σ : Sto} (h : n < l.length) : sliceV k (sv k .lst (l.map g)) (some (.int kd (n : Int))) (some (.int kd' ((n + 1 : Nat) : Int))) none σ = some (sv k .lst ([l[n]].map g), σ) := by
 rw [sv_lst, slice_mid (by omega) (by rw [List.length_map]; omega), sv_lst]
 congr 3
 rw [← List.map_take, ← List.map_drop]
 congr 1
 rw [List.take_succ_eq_append_getElem h, List.drop_append_of_le_length (by rw [List.length_take]; omega)]
 simp
theorem one_sub {α : Type} {l : List α} {n : Nat} (h : n < l.length) : [l[n]].Sublist l := by
 exact List.singleton_sublist.2 (List.getElem_mem h)
theorem one_len {p : SlF × List Val} {b : Rows} {i j : Int} : (0 : Int) < ((joinL [p] b i j (-1)).length : Nat) ↔ hasP b i j p.2 = true := by
 rw [join_one, List.length_map]
 cases h : hasP b i j p.2
 ·rw [has_nil.1 h]; simp
 ·have hn : b.filter (partP p.2 i j) ≠ [] := fun e => by rw [has_nil.2 e] at h; cases h
  have := List.length_pos_iff.2 hn
  exact ⟨fun _ => rfl, fun _ => by omega⟩

abbrev pS (z : Cas) (a b S U : Rows) (J : List (List Val)) (i j : Int) : Sto := [.cells false [bytesA z.fa z.a, bytesA z.fb z.b, .int .u8 (z.wa : Int), .int .u8 (z.wb : Int), .int .u8 (z.o0 : Int), .int .u8 (z.o1 : Int)],
 .cells false [rowsA .lst a, rowsA .lst b, .int .i64 i, .int .i64 j], .cells false [rowsA (flR S) S, .int .i64 0], .cells false [rowsA (flR U) U, .int .i64 0], .cells false [rowsA (flO J) (lstR J), .int .i64 0]]
abbrev pE (l : List (Nat × AVal)) : Env := mkE 205 ([(1, .ptr 0 6 0), (3, .bool true), (4, .ptr 1 4 0), (5, .ptr 2 2 0), (6, .ptr 3 2 0), (7, .ptr 4 2 0)] ++ l)

theorem semi_one {x : List Val} {b : Rows} {g : SlF} {m n : Nat} {i j : Int} (h : Two [(.lst, x)] b m n i j) {Q : Post3} {k : List Item} {os : List AOper} {d : Option Nat} {e : Env} {σ : Sto} :
  CallK T Q k os d e σ true i_X45 [.list 1 [rowA .lst x], rowsA g b, onA i j] ↔ Run T Q (.ops os :: k) (put e d (.agg [rowsA (flR (someR [(.lst, x)] b i j true)) (someR [(.lst, x)] b i j true), .int .i64 0])) σ := by
 have := X45_call (f := .lst) (g := g) h.ok (Q := Q) (k := k) (os := os) (d := d) (e := e) (σ := σ)
 rwa [rowsA, sv_lst] at this

theorem someR_one {x : List Val} {b : Rows} {i j : Int} (h : hasP b i j x = true) : someR [(.lst, x)] b i j true = [(.lst, x)] := by
 simp [someR, h]
theorem partners_rows {z : Cas} {a b : Rows} {i j : Int} (h : Two a b z.m z.n i j) : ∀ q, q ≤ (joinL a b i j (-1)).length →
  Run T (Res [.tmp 2] (.bool true)) (.inLoop X8.b1 :: X8.k1) (pE [(8, .int .i64 ((someR a b i j true).length : Nat)), (9, .int .i64 ((someR a b i j false).length : Nat)), (12, .int .i64 (z.m : Nat)), (13, .int .i64 q)]) (pS z a b (someR a b i j true) (someR a b i j false) (joinL a b i j (-1)) i j) := by
 have hlen := h.len
 refine up_ind ?_ fun q hq ih => ?_
 ·rw [run_round, run_unfold X8.b1.eq_1]
  simp (maxSteps := 2000000) only [go_sem, pE, List.cons_append, List.nil_append, run_unfold X8.c0.eq_1, run_unfold X8.c1.eq_1, run_unfold X8.c2.eq_1, run_unfold X8.c3.eq_1, X8.k0, X8.k1, Int.lt_irrefl]
  done
 ·rw [run_round, run_unfold X8.b1.eq_1]
  obtain ⟨p, hp, p2, hp2, e, hpart⟩ := join_mem (List.getElem_mem hq)
  have hpl := h.ha.w p hp
  have hpl2 := h.hb.w p2 hp2
  have m3 := h.hm
  have n3 := h.hn
  obtain ⟨fp, u⟩ := p
  obtain ⟨fq, v⟩ := p2
  simp only at hpl hpl2 e hpart
  generalize hr : (joinL a b i j (-1))[q] = r at e
  have hrl : r.length = z.m + z.n := by rw [e, List.length_append, hpl, hpl2]
  have hc := hpart
  simp only [partP, Bool.and_eq_true, Bool.not_eq_true', decide_eq_false_iff_not, decide_eq_true_eq] at hc
  have hi : 0 ≤ i ∧ i < r.length := ⟨h.i0, by have := h.im; omega⟩
  have hj : 0 ≤ (z.m : Int) + j ∧ (z.m : Int) + j < r.length := ⟨by have := h.j0; omega, by have := h.jn; omega⟩
  have ci : colN r i = colN u i := by
   have := h.im
   have := h.i0
   unfold colN; rw [e, List.getD_eq_getElem?_getD, List.getD_eq_getElem?_getD, List.getElem?_append_left (by omega)]
  have cj : colN r ((z.m : Int) + j) = colN v j := by
   have := h.jn
   have := h.j0
   unfold colN; rw [e, List.getD_eq_getElem?_getD, List.getD_eq_getElem?_getD, List.getElem?_append_right (by omega)]
   congr 2; omega
  have hk : ¬ (colN r i).k = 0 := by rw [ci]; exact hc.1
  have heq : decide (colN r i = colN r ((z.m : Int) + j)) = true := by rw [ci, cj]; exact decide_eq_true hc.2
  have htk : r.take z.m = u := by rw [e, ← hpl]; simp
  have hsemi : Two [(.lst, u)] b z.m z.n i j := ⟨⟨by simp, fun p hp => by simp at hp; subst hp; exact hpl, fun p hp => by simp at hp; subst hp; exact fun w hw => h.ha.s (fp, u) hp w hw⟩, h.hb, h.hm, h.hn, h.i0, h.j0, h.im, h.jn⟩
  have hhas : hasP b i j u = true := by rw [hasP, List.any_eq_true]; exact ⟨_, hp2, hpart⟩
  have hs1 := someR_one (b := b) (i := i) (j := j) hhas
  have a1 := fun {σ : Sto} => @iaddrV_int' 3 .lst Val (fun v => .agg [.int .i64 v.k, .int .i64 v.i, .str v.s]) r .i64 i σ hi
  have a2 := fun {σ : Sto} => @iaddrV_int' 3 .lst Val (fun v => .agg [.int .i64 v.k, .int .i64 v.i, .str v.s]) r .i64 ((z.m : Int) + j) σ hj
  have hg : (lstR (joinL a b i j (-1)))[q]'(by rw [List.length_map]; exact hq) = (.lst, r) := by rw [← hr]; exact List.getElem_map ..
  simp only [colN_get hi] at a1
  simp only [colN_get hj] at a2
  have hw : IntKind.i64.wrap (IntKind.i64.wrap ((z.m : Int) + 1) + IntKind.i64.wrap ((z.wb : Int).tmod 3)) = ((z.m + z.n : Nat) : Int) := by
   have h3 : (z.wb : Int).tmod 3 = ((z.wb % 3 : Nat) : Int) := rfl
   rw [h3, wrap_nat (by omega), wrap_succ (by omega), wrap_i64 (by omega) (by omega)]
   show _ = ((z.m + (1 + z.wb % 3) : Nat) : Int)
   omega
  have hw2 : IntKind.i64.wrap ((z.m : Int) + j) = (z.m : Int) + j := wrap_i64 (by have := h.j0; omega) (by have := h.jn; omega)
  have hq1 := wrap_succ (show q < 9223372036854775807 by omega)
  have st := fun {σ : Sto} => @slice_sv_take σ Val (fun v => .agg [.int .i64 v.k, .int .i64 v.i, .str v.s]) r .i64 3 z.m (by omega)
  have cs := fun {Q : Post3} {k : List Item} {os : List AOper} {d : Option Nat} {e : Env} {σ : Sto} => semi_one (g := .lst) hsemi (Q := Q) (k := k) (os := os) (d := d) (e := e) (σ := σ)
  simp (maxSteps := 2000000) only [go_sem, pE, List.cons_append, List.nil_append, hq, hg, hrl, hw, hw2, a1, a2, hk, heq, val_eta, st, htk, cs, hs1, hq1]
  simp only [pE, List.cons_append, List.nil_append] at ih
  exact ih

theorem nested_one {p : SlF × List Val} {b : Rows} {g : SlF} {m n : Nat} {i j : Int} (h : Two [p] b m n i j) {Q : Post3} {k : List Item} {os : List AOper} {d : Option Nat} {e : Env} {σ : Sto} :
  CallK T Q k os d e σ true i_X31 [.list 1 [rowA p.1 p.2], rowsA g b, onA i j] ↔ Run T Q (.ops os :: k) (put e d (.agg [rowsA (flO (joinL [p] b i j (-1))) (lstR (joinL [p] b i j (-1))), .int .i64 0])) σ := by
 have := X31_call (f := .lst) (g := g) h.ok h.len4 (Q := Q) (k := k) (os := os) (d := d) (e := e) (σ := σ)
 rwa [rowsA, sv_lst] at this
theorem drop_get {α : Type} {l r : List α} {x : Nat} {c : α} (h : l.drop x = c :: r) : ∃ hx : x < l.length, l[x] = c ∧ l.drop (x + 1) = r := by
 have hx : x < l.length := by
  have := congrArg List.length h
  simp only [List.length_drop, List.length_cons] at this; omega
 rw [List.drop_eq_getElem_cons hx] at h
 injection h with h1 h2
 exact ⟨hx, h1, h2⟩
theorem partners_all {z : Cas} {a b S U : Rows} {i j : Int} (hz : z.Ok) (h : Two a b z.m z.n i j) (hS : S = someR a b i j true) (hU : U = someR a b i j false) : ∀ k, k ≤ a.length → ∀ x y, x ≤ S.length → y ≤ U.length → S.drop x = someR (a.drop k) b i j true → U.drop y = someR (a.drop k) b i j false →
  Run T (Res [.tmp 2] (.bool true)) (.inLoop X8.b0 :: X8.k0) (pE [(8, .int .i64 x), (9, .int .i64 y), (10, .int .i64 k)]) (pS z a b S U (joinL a b i j (-1)) i j) := by
 have la := h.ha.n
 have hw := wid (w := z.wa)
 have hSl : S.length ≤ 20 := by rw [hS]; exact Nat.le_trans (List.length_filter_le ..) la
 have hUl : U.length ≤ 20 := by rw [hU]; exact Nat.le_trans (List.length_filter_le ..) la
 refine up_ind (fun x y hx hy h1 h2 => ?_) fun k hk ih x y hx hy h1 h2 => ?_
 ·have e1 : x = S.length := by
   have := congrArg List.length h1
   simp only [List.length_drop, List.drop_length, someR, List.filter_nil, List.length_nil] at this; omega
  have e2 : y = U.length := by
   have := congrArg List.length h2
   simp only [List.length_drop, List.drop_length, someR, List.filter_nil, List.length_nil] at this; omega
  subst e1 e2
  have hr := partners_rows h 0 (by omega)
  rw [← hS, ← hU] at hr
  simp only [pE, List.cons_append, List.nil_append] at hr
  rw [run_round, run_unfold X8.b0.eq_1]
  simp (maxSteps := 2000000) only [go_sem, pE, List.cons_append, List.nil_append, run_unfold X8.c0.eq_1, run_unfold X8.c1.eq_1, run_unfold X8.c2.eq_1, run_unfold X8.c3.eq_1, X8.k0, X8.k1, Int.lt_irrefl, hw]
  exact hr
 ·have hone := h.sub (one_sub hk) (List.Sublist.refl b)
  rw [List.drop_eq_getElem_cons hk] at h1 h2
  have w1 := wrap_succ (show k < 9223372036854775807 by omega)
  have w2 := wrap_succ (show x < 9223372036854775807 by omega)
  have w3 := wrap_succ (show y < 9223372036854775807 by omega)
  have cn := fun {Q : Post3} {kk : List Item} {os : List AOper} {d : Option Nat} {e : Env} {σ : Sto} => nested_one (g := .lst) hone (Q := Q) (k := kk) (os := os) (d := d) (e := e) (σ := σ)
  have hfit := (h.ha.fit h.hm).2 _ (List.getElem_mem hk)
  have hsame : ∀ {Q : Post3} {kk : List Item} {os : List AOper} {d : Option Nat} {e : Env} {σ : Sto}, CallK T Q kk os d e σ true i_X48 [rowA a[k].1 a[k].2, rowA a[k].1 a[k].2] ↔ Run T Q (.ops os :: kk) (put e d (.bool true)) σ := by
   intro Q kk os d e σ
   have := X48_call (f := a[k].1) (g := a[k].1) (a := a[k].2) (b := a[k].2) hfit.1 hfit.1 hfit.2 hfit.2 (Q := Q) (k := kk) (os := os) (d := d) (e := e) (σ := σ)
   rwa [decide_eq_true rfl] at this
  have so : ∀ {σ : Sto}, sliceV 1 (rowsA .lst a) (some (.int .i64 (k : Int))) (some (.int .i64 ((k + 1 : Nat) : Int))) none σ = some (.list 1 [rowA a[k].1 a[k].2], σ) := by
   intro σ
   exact (slice_sv_one (σ := σ) (g := fun p : SlF × List Val => rowA p.1 p.2) (l := a) (kd := .i64) (kd' := .i64) (k := 1) hk).trans (by rw [sv_lst]; rfl)
  rw [run_round, run_unfold X8.b0.eq_1]
  simp only [pE, List.cons_append, List.nil_append] at ih
  cases hp : hasP b i j a[k].2
  ·have hz0 : ¬ ((0 : Int) < ((joinL [a[k]] b i j (-1)).length : Nat)) := by rw [one_len, hp]; simp
   have hz1 : ((joinL [a[k]] b i j (-1)).length : Int) = 0 := by omega
   have h1' : S.drop x = someR (a.drop (k + 1)) b i j true := by rw [h1, someR, List.filter_cons_of_neg (by rw [hp]; decide)]
   have h2' : U.drop y = a[k] :: someR (a.drop (k + 1)) b i j false := by rw [h2, someR, List.filter_cons_of_pos (by rw [hp]; decide)]
   obtain ⟨g1, g2, g3⟩ := drop_get h2'
   have ih' := ih x (y + 1) hx g1 h1' g3
   simp (maxSteps := 2000000) only [go_sem, pE, List.cons_append, List.nil_append, hk, so, w1, w3, cn, hz0, hz1, g1, g2, hsame, run_unfold X8.c0.eq_1, run_unfold X8.c1.eq_1, run_unfold X8.c2.eq_1, run_unfold X8.c3.eq_1, X8.k0, X8.k1]
   exact ih'
  ·have hz0 : ((0 : Int) < ((joinL [a[k]] b i j (-1)).length : Nat)) := one_len.2 hp
   have h2' : U.drop y = someR (a.drop (k + 1)) b i j false := by rw [h2, someR, List.filter_cons_of_neg (by rw [hp]; decide)]
   have h1' : S.drop x = a[k] :: someR (a.drop (k + 1)) b i j true := by rw [h1, someR, List.filter_cons_of_pos (by rw [hp]; decide)]
   obtain ⟨g1, g2, g3⟩ := drop_get h1'
   have ih' := ih (x + 1) y g1 hy g3 h2'
   simp (maxSteps := 2000000) only [go_sem, pE, List.cons_append, List.nil_append, hk, so, w1, w2, cn, hz0, g1, g2, hsame, run_unfold X8.c0.eq_1, run_unfold X8.c1.eq_1, run_unfold X8.c2.eq_1, run_unfold X8.c3.eq_1, X8.k0, X8.k1]
   exact ih'
theorem X8_spec {z : Cas} (h : z.Ok) {lv : List Nat} {σ : Sto} {R : Post} : Cw T true i_X8 [z.v] lv σ R ↔ R (.bool true) σ := by
 refine cw_intro T_X8 (by simp only [go_sem]) (by simp) ?_; rw [run_unfold X8.main.eq_1]
 have h2 := z.two
 have hmade := fun {Q : Post3} {k : List Item} {os : List AOper} {d : Option Nat} {e : Env} {σ : Sto} => X46_call (z := z) h (Q := Q) (k := k) (os := os) (d := d) (e := e) (σ := σ)
 generalize z.A = a at h2 hmade
 generalize z.B = b at h2 hmade
 generalize z.i = i at h2 hmade
 generalize z.j = j at h2 hmade
 have hl := partners_all h h2 rfl rfl 0 (by omega) 0 0 (by omega) (by omega) rfl rfl
 simp only [pE, List.cons_append, List.nil_append] at hl
 simp (maxSteps := 2000000) only [go_sem, hmade, X45_call h2.ok, X47_call h2.ok, X31_call h2.ok h2.len4]
 exact hl
@[go_sem] theorem X8_call {z : Cas} (h : z.Ok) {Q : Post3} {k : List Item} {os : List AOper} {d : Option Nat} {e : Env} {σ : Sto} : CallK T Q k os d e σ true i_X8 [z.v] ↔ Run T Q (.ops os :: k) (put e d (.bool true)) σ := X8_spec h

end Go.Abs
