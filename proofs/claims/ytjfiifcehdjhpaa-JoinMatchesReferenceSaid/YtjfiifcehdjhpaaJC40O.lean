/- Parts of the proof: C40O, C40W, C40P, C40Q, C40R, C40T, C40U, C40V, C40XA, C40XB, C40XC, C40XD, C40XE, C40XF, C40XG, C40XH, C40XI. -/
import Derived.Test.YtjfiifcehdjhpaaC40M
import Derived.Test.YtjfiifcehdjhpaaAbsVal2
set_option linter.all false
/- Walks of chapter 40: JoinPartners. -/
set_option linter.unusedSimpArgs false
set_option linter.unusedVariables false
set_option maxRecDepth 100000
set_option maxHeartbeats 8000000
namespace Go.Abs
open Go
attribute [local go_sem_proc] Nat.reduceLT Nat.reduceEqDiff Nat.reduceLeDiff Nat.reduceAdd Nat.reduceSub Nat.reduceMul Int.reduceLT Int.reduceLE Int.reduceEq Int.reduceNeg
attribute [local go_sem_proc ↓] reduceIte

theorem slice_sv_one {α : Type} {g : α → AVal} {l : List α} {kd kd' : IntKind} {k n : Nat} {σ : Sto} (h : n < l.length) : sliceV k (sv k .lst (l.map g)) (some (.int kd (n : Int))) (some (.int kd' ((n + 1 : Nat) : Int))) none σ = some (sv k .lst ([l[n]].map g), σ) := by
 rw [sv_lst, slice_mid (by omega) (by rw [List.length_map]; omega), sv_lst]
 congr 3
 rw [← List.map_take, ← List.map_drop]
 congr 1
 rw [List.take_succ_eq_append_getElem h, List.drop_append_of_le_length (by rw [List.length_take]; omega)]
 simp
theorem one_sub {α : Type} {l : List α} {n : Nat} (h : n < l.length) : [l[n]].Sublist l := by
 exact List.singleton_sublist.2 (List.getElem_mem h)
theorem one_len {p : SlF × List Val} {b : Rows} {i j : Int} : (0 : Int) < ((joinL [p] b i j (-1)).length : Nat) ↔ hasP b i j p.2 = true := by
 rw [join_one, List.length_map]
 cases h : hasP b i j p.2
 ·rw [has_nil.1 h]; simp
 ·have hn : b.filter (partP p.2 i j) ≠ [] := fun e => by rw [has_nil.2 e] at h; cases h
  have := List.length_pos_iff.2 hn
  exact ⟨fun _ => rfl, fun _ => by omega⟩

abbrev pS (z : Cas) (a b S U : Rows) (J : List (List Val)) (i j : Int) : Sto := [.cells false [bytesA z.fa z.a, bytesA z.fb z.b, .int .u8 (z.wa : Int), .int .u8 (z.wb : Int), .int .u8 (z.o0 : Int), .int .u8 (z.o1 : Int)],
 .cells false [rowsA .lst a, rowsA .lst b, .int .i64 i, .int .i64 j], .cells false [rowsA (flR S) S, .int .i64 0], .cells false [rowsA (flR U) U, .int .i64 0], .cells false [rowsA (flO J) (lstR J), .int .i64 0]]
abbrev pE (l : List (Nat × AVal)) : Env := mkE 205 ([(1, .ptr 0 6 0), (3, .bool true), (4, .ptr 1 4 0), (5, .ptr 2 2 0), (6, .ptr 3 2 0), (7, .ptr 4 2 0)] ++ l)

theorem semi_one {x : List Val} {b : Rows} {g : SlF} {m n : Nat} {i j : Int} (h : Two [(.lst, x)] b m n i j) {Q : Post3} {k : List Item} {os : List AOper} {d : Option Nat} {e : Env} {σ : Sto} :
  CallK T Q k os d e σ true i_X55 [.list 1 [rowA .lst x], rowsA g b, onA i j] ↔ Run T Q (.ops os :: k) (put e d (.agg [rowsA (flR (someR [(.lst, x)] b i j true)) (someR [(.lst, x)] b i j true), .int .i64 0])) σ := by
 have := X55_call (f := .lst) (g := g) h.ok (Q := Q) (k := k) (os := os) (d := d) (e := e) (σ := σ)
 rwa [rowsA, sv_lst] at this

theorem someR_one {x : List Val} {b : Rows} {i j : Int} (h : hasP b i j x = true) : someR [(.lst, x)] b i j true = [(.lst, x)] := by
 simp [someR, h]
theorem partners_rows {z : Cas} {a b : Rows} {i j : Int} (h : Two a b z.m z.n i j) : ∀ q, q ≤ (joinL a b i j (-1)).length →
  Run T (Res [.tmp 2] (.bool true)) (.inLoop X9.b1 :: X9.k1) (pE [(8, .int .i64 ((someR a b i j true).length : Nat)), (9, .int .i64 ((someR a b i j false).length : Nat)), (12, .int .i64 (z.m : Nat)), (13, .int .i64 q)]) (pS z a b (someR a b i j true) (someR a b i j false) (joinL a b i j (-1)) i j) := by
 have hlen := h.len
 refine up_ind ?_ fun q hq ih => ?_
 ·rw [run_round, run_unfold X9.b1.eq_1]
  simp (maxSteps := 2000000) only [go_sem, pE, List.cons_append, List.nil_append, run_unfold X9.c0.eq_1, run_unfold X9.c1.eq_1, run_unfold X9.c2.eq_1, run_unfold X9.c3.eq_1, X9.k0, X9.k1, Int.lt_irrefl]
  done
 ·rw [run_round, run_unfold X9.b1.eq_1]
  obtain ⟨p, hp, p2, hp2, e, hpart⟩ := join_mem (List.getElem_mem hq)
  have hpl := h.ha.w p hp
  have hpl2 := h.hb.w p2 hp2
  have m3 := h.hm
  have n3 := h.hn
  obtain ⟨fp, u⟩ := p
  obtain ⟨fq, v⟩ := p2
  simp only at hpl hpl2 e hpart
  generalize hr : (joinL a b i j (-1))[q] = r at e
  have hrl : r.length = z.m + z.n := by rw [e, List.length_append, hpl, hpl2]
  have hc := hpart
  simp only [partP, Bool.and_eq_true, Bool.not_eq_true', decide_eq_false_iff_not, decide_eq_true_eq] at hc
  have hi : 0 ≤ i ∧ i < r.length := ⟨h.i0, by have := h.im; omega⟩
  have hj : 0 ≤ (z.m : Int) + j ∧ (z.m : Int) + j < r.length := ⟨by have := h.j0; omega, by have := h.jn; omega⟩
  have ci : colN r i = colN u i := by
   have := h.im
   have := h.i0
   unfold colN; rw [e, List.getD_eq_getElem?_getD, List.getD_eq_getElem?_getD, List.getElem?_append_left (by omega)]
  have cj : colN r ((z.m : Int) + j) = colN v j := by
   have := h.jn
   have := h.j0
   unfold colN; rw [e, List.getD_eq_getElem?_getD, List.getD_eq_getElem?_getD, List.getElem?_append_right (by omega)]
   congr 2; omega
  have hk : ¬ (colN r i).k = 0 := by rw [ci]; exact hc.1
  have heq : decide (colN r i = colN r ((z.m : Int) + j)) = true := by rw [ci, cj]; exact decide_eq_true hc.2
  have htk : r.take z.m = u := by rw [e, ← hpl]; simp
  have hsemi : Two [(.lst, u)] b z.m z.n i j := ⟨⟨by simp, fun p hp => by simp at hp; subst hp; exact hpl, fun p hp => by simp at hp; subst hp; exact fun w hw => h.ha.s (fp, u) hp w hw⟩, h.hb, h.hm, h.hn, h.i0, h.j0, h.im, h.jn⟩
  have hhas : hasP b i j u = true := by rw [hasP, List.any_eq_true]; exact ⟨_, hp2, hpart⟩
  have hs1 := someR_one (b := b) (i := i) (j := j) hhas
  have a1 := fun {σ : Sto} => @iaddrV_int' 3 .lst Val (fun v => .agg [.int .i64 v.k, .int .i64 v.i, .str v.s]) r .i64 i σ hi
  have a2 := fun {σ : Sto} => @iaddrV_int' 3 .lst Val (fun v => .agg [.int .i64 v.k, .int .i64 v.i, .str v.s]) r .i64 ((z.m : Int) + j) σ hj
  have hg : (lstR (joinL a b i j (-1)))[q]'(by rw [List.length_map]; exact hq) = (.lst, r) := by rw [← hr]; exact List.getElem_map ..
  simp only [colN_get hi] at a1
  simp only [colN_get hj] at a2
  have hw : IntKind.i64.wrap (IntKind.i64.wrap ((z.m : Int) + 1) + IntKind.i64.wrap ((z.wb : Int).tmod 3)) = ((z.m + z.n : Nat) : Int) := by
   have h3 : (z.wb : Int).tmod 3 = ((z.wb % 3 : Nat) : Int) := rfl
   rw [h3, wrap_nat (by omega), wrap_succ (by omega), wrap_i64 (by omega) (by omega)]
   show _ = ((z.m + (1 + z.wb % 3) : Nat) : Int)
   omega
  have hw2 : IntKind.i64.wrap ((z.m : Int) + j) = (z.m : Int) + j := wrap_i64 (by have := h.j0; omega) (by have := h.jn; omega)
  have hq1 := wrap_succ (show q < 9223372036854775807 by omega)
  have st := fun {σ : Sto} => @slice_sv_take σ Val (fun v => .agg [.int .i64 v.k, .int .i64 v.i, .str v.s]) r .i64 3 z.m (by omega)
  have cs := fun {Q : Post3} {k : List Item} {os : List AOper} {d : Option Nat} {e : Env} {σ : Sto} => semi_one (g := .lst) hsemi (Q := Q) (k := k) (os := os) (d := d) (e := e) (σ := σ)
  simp (maxSteps := 2000000) only [go_sem, pE, List.cons_append, List.nil_append, hq, hg, hrl, hw, hw2, a1, a2, hk, heq, val_eta, st, htk, cs, hs1, hq1]
  simp only [pE, List.cons_append, List.nil_append] at ih
  exact ih

theorem nested_one {p : SlF × List Val} {b : Rows} {g : SlF} {m n : Nat} {i j : Int} (h : Two [p] b m n i j) {Q : Post3} {k : List Item} {os : List AOper} {d : Option Nat} {e : Env} {σ : Sto} :
  CallK T Q k os d e σ true i_X36 [.list 1 [rowA p.1 p.2], rowsA g b, onA i j] ↔ Run T Q (.ops os :: k) (put e d (.agg [rowsA (flO (joinL [p] b i j (-1))) (lstR (joinL [p] b i j (-1))), .int .i64 0])) σ := by
 have := X36_call (f := .lst) (g := g) h.ok h.len4 (Q := Q) (k := k) (os := os) (d := d) (e := e) (σ := σ)
 rwa [rowsA, sv_lst] at this
theorem drop_get {α : Type} {l r : List α} {x : Nat} {c : α} (h : l.drop x = c :: r) : ∃ hx : x < l.length, l[x] = c ∧ l.drop (x + 1) = r := by
 have hx : x < l.length := by
  have := congrArg List.length h
  simp only [List.length_drop, List.length_cons] at this; omega
 rw [List.drop_eq_getElem_cons hx] at h
 injection h with h1 h2
 exact ⟨hx, h1, h2⟩
theorem partners_all {z : Cas} {a b S U : Rows} {i j : Int} (hz : z.Ok) (h : Two a b z.m z.n i j) (hS : S = someR a b i j true) (hU : U = someR a b i j false) : ∀ k, k ≤ a.length → ∀ x y, x ≤ S.length → y ≤ U.length → S.drop x = someR (a.drop k) b i j true → U.drop y = someR (a.drop k) b i j false →
  Run T (Res [.tmp 2] (.bool true)) (.inLoop X9.b0 :: X9.k0) (pE [(8, .int .i64 x), (9, .int .i64 y), (10, .int .i64 k)]) (pS z a b S U (joinL a b i j (-1)) i j) := by
 have la := h.ha.n
 have hw := wid (w := z.wa)
 have hSl : S.length ≤ 20 := by rw [hS]; exact Nat.le_trans (List.length_filter_le ..) la
 have hUl : U.length ≤ 20 := by rw [hU]; exact Nat.le_trans (List.length_filter_le ..) la
 refine up_ind (fun x y hx hy h1 h2 => ?_) fun k hk ih x y hx hy h1 h2 => ?_
 ·have e1 : x = S.length := by
   have := congrArg List.length h1
   simp only [List.length_drop, List.drop_length, someR, List.filter_nil, List.length_nil] at this; omega
  have e2 : y = U.length := by
   have := congrArg List.length h2
   simp only [List.length_drop, List.drop_length, someR, List.filter_nil, List.length_nil] at this; omega
  subst e1 e2
  have hr := partners_rows h 0 (by omega)
  rw [← hS, ← hU] at hr
  simp only [pE, List.cons_append, List.nil_append] at hr
  rw [run_round, run_unfold X9.b0.eq_1]
  simp (maxSteps := 2000000) only [go_sem, pE, List.cons_append, List.nil_append, run_unfold X9.c0.eq_1, run_unfold X9.c1.eq_1, run_unfold X9.c2.eq_1, run_unfold X9.c3.eq_1, X9.k0, X9.k1, Int.lt_irrefl, hw]
  exact hr
 ·have hone := h.sub (one_sub hk) (List.Sublist.refl b)
  rw [List.drop_eq_getElem_cons hk] at h1 h2
  have w1 := wrap_succ (show k < 9223372036854775807 by omega)
  have w2 := wrap_succ (show x < 9223372036854775807 by omega)
  have w3 := wrap_succ (show y < 9223372036854775807 by omega)
  have cn := fun {Q : Post3} {kk : List Item} {os : List AOper} {d : Option Nat} {e : Env} {σ : Sto} => nested_one (g := .lst) hone (Q := Q) (k := kk) (os := os) (d := d) (e := e) (σ := σ)
  have hfit := (h.ha.fit h.hm).2 _ (List.getElem_mem hk)
  have hsame : ∀ {Q : Post3} {kk : List Item} {os : List AOper} {d : Option Nat} {e : Env} {σ : Sto}, CallK T Q kk os d e σ true i_X59 [rowA a[k].1 a[k].2, rowA a[k].1 a[k].2] ↔ Run T Q (.ops os :: kk) (put e d (.bool true)) σ := by
   intro Q kk os d e σ
   have := X59_call (f := a[k].1) (g := a[k].1) (a := a[k].2) (b := a[k].2) hfit.1 hfit.1 hfit.2 hfit.2 (Q := Q) (k := kk) (os := os) (d := d) (e := e) (σ := σ)
   rwa [decide_eq_true rfl] at this
  have so : ∀ {σ : Sto}, sliceV 1 (rowsA .lst a) (some (.int .i64 (k : Int))) (some (.int .i64 ((k + 1 : Nat) : Int))) none σ = some (.list 1 [rowA a[k].1 a[k].2], σ) := by
   intro σ
   exact (slice_sv_one (σ := σ) (g := fun p : SlF × List Val => rowA p.1 p.2) (l := a) (kd := .i64) (kd' := .i64) (k := 1) hk).trans (by rw [sv_lst]; rfl)
  rw [run_round, run_unfold X9.b0.eq_1]
  simp only [pE, List.cons_append, List.nil_append] at ih
  cases hp : hasP b i j a[k].2
  ·have hz0 : ¬ ((0 : Int) < ((joinL [a[k]] b i j (-1)).length : Nat)) := by rw [one_len, hp]; simp
   have hz1 : ((joinL [a[k]] b i j (-1)).length : Int) = 0 := by omega
   have h1' : S.drop x = someR (a.drop (k + 1)) b i j true := by rw [h1, someR, List.filter_cons_of_neg (by rw [hp]; decide)]
   have h2' : U.drop y = a[k] :: someR (a.drop (k + 1)) b i j false := by rw [h2, someR, List.filter_cons_of_pos (by rw [hp]; decide)]
   obtain ⟨g1, g2, g3⟩ := drop_get h2'
   have ih' := ih x (y + 1) hx g1 h1' g3
   simp (maxSteps := 2000000) only [go_sem, pE, List.cons_append, List.nil_append, hk, so, w1, w3, cn, hz0, hz1, g1, g2, hsame, run_unfold X9.c0.eq_1, run_unfold X9.c1.eq_1, run_unfold X9.c2.eq_1, run_unfold X9.c3.eq_1, X9.k0, X9.k1]
   exact ih'
  ·have hz0 : ((0 : Int) < ((joinL [a[k]] b i j (-1)).length : Nat)) := one_len.2 hp
   have h2' : U.drop y = someR (a.drop (k + 1)) b i j false := by rw [h2, someR, List.filter_cons_of_neg (by rw [hp]; decide)]
   have h1' : S.drop x = a[k] :: someR (a.drop (k + 1)) b i j true := by rw [h1, someR, List.filter_cons_of_pos (by rw [hp]; decide)]
   obtain ⟨g1, g2, g3⟩ := drop_get h1'
   have ih' := ih (x + 1) y g1 hy g3 h2'
   simp (maxSteps := 2000000) only [go_sem, pE, List.cons_append, List.nil_append, hk, so, w1, w2, cn, hz0, g1, g2, hsame, run_unfold X9.c0.eq_1, run_unfold X9.c1.eq_1, run_unfold X9.c2.eq_1, run_unfold X9.c3.eq_1, X9.k0, X9.k1]
   exact ih'
theorem X9_spec {z : Cas} (h : z.Ok) {lv : List Nat} {σ : Sto} {R : Post} : Cw T true i_X9 [z.v] lv σ R ↔ R (.bool true) σ := by
 refine cw_intro T_X9 (by simp only [go_sem]) (by simp) ?_; rw [run_unfold X9.main.eq_1]
 have h2 := z.two
 have hmade := fun {Q : Post3} {k : List Item} {os : List AOper} {d : Option Nat} {e : Env} {σ : Sto} => X62_call (z := z) h (Q := Q) (k := k) (os := os) (d := d) (e := e) (σ := σ)
 generalize z.A = a at h2 hmade
 generalize z.B = b at h2 hmade
 generalize z.i = i at h2 hmade
 generalize z.j = j at h2 hmade
 have hl := partners_all h h2 rfl rfl 0 (by omega) 0 0 (by omega) (by omega) rfl rfl
 simp only [pE, List.cons_append, List.nil_append] at hl
 simp (maxSteps := 2000000) only [go_sem, hmade, X55_call h2.ok, X61_call h2.ok, X36_call h2.ok h2.len4]
 exact hl
@[go_sem] theorem X9_call {z : Cas} (h : z.Ok) {Q : Post3} {k : List Item} {os : List AOper} {d : Option Nat} {e : Env} {σ : Sto} : CallK T Q k os d e σ true i_X9 [z.v] ↔ Run T Q (.ops os :: k) (put e d (.bool true)) σ := X9_spec h

end Go.Abs
/- Walks of chapter 40: JoinOuter. -/
set_option linter.unusedSimpArgs false
set_option linter.unusedVariables false
set_option maxRecDepth 100000
set_option maxHeartbeats 8000000
namespace Go.Abs
open Go
attribute [local go_sem_proc] Nat.reduceLT Nat.reduceEqDiff Nat.reduceLeDiff Nat.reduceAdd Nat.reduceSub Nat.reduceMul Int.reduceLT Int.reduceLE Int.reduceEq Int.reduceNeg
attribute [local go_sem_proc ↓] reduceIte

theorem join_lenN {a b : Rows} {i j n : Int} : (joinL a b i j n).length ≤ a.length * (b.length + 1) := by
 induction a with
 | nil => simp [joinL]
 | cons p a ih =>
  have h1 : (jrow (fun x => b.filter (partP x i j)) n p.2).length ≤ b.length + 1 := by
   have := List.length_filter_le (partP p.2 i j) b
   unfold jrow
   split
   ·simp
   ·rw [List.length_map]; exact Nat.le_succ_of_le this
  simp only [joinL, List.flatMap_cons, List.length_append, List.length_cons] at ih ⊢
  refine Nat.le_trans (Nat.add_le_add h1 ih) ?_
  rw [Nat.add_mul, Nat.one_mul, Nat.add_comm]
  exact Nat.le_refl _
theorem Two.lenN {a b : Rows} {m n : Nat} {i j w : Int} (h : Two a b m n i j) : (joinL a b i j w).length ≤ 4096 := by
 refine Nat.le_trans join_lenN ?_
 have h1 := h.ha.n
 have h2 := h.hb.n
 exact Nat.le_trans (Nat.mul_le_mul h1 (Nat.succ_le_succ h2)) (by decide)
theorem X42_spec {f g : SlF} {a b : Rows} {i j n : Int} (h : JoinOk a b i j) (h0 : 0 ≤ n) (hn : n ≤ 32) (h4 : (joinL a b i j n).length ≤ 4096) {lv : List Nat} {σ : Sto} {R : Post} : Cw T true i_X42 [rowsA f a, rowsA g b, onA i j, .int .i64 n] lv σ R ↔ R (.tup [rowsA (flO (joinL a b i j n)) (lstR (joinL a b i j n)), .int .i64 0]) σ := by
 refine cw_intro T_X42 (by simp only [go_sem]) (by simp) ?_; rw [run_unfold X42.main.eq_1]
 have e1 : ¬ n < 0 := by omega
 have e2 : ¬ 32 < n := by omega
 simp (maxSteps := 2000000) only [go_sem, X54_call h.fa h.fb, fit_all h.hi h.ca, fit_all h.hj h.cb, X40_call h.fb h.cb, hash_call h (show n ≤ 1000 by omega) h4, Bool.true_and, e1, e2]
 done
@[go_sem] theorem X42_call {f g : SlF} {a b : Rows} {i j n : Int} (h : JoinOk a b i j) (h0 : 0 ≤ n) (hn : n ≤ 32) (h4 : (joinL a b i j n).length ≤ 4096) {Q : Post3} {k : List Item} {os : List AOper} {d : Option Nat} {e : Env} {σ : Sto} : CallK T Q k os d e σ true i_X42 [rowsA f a, rowsA g b, onA i j, .int .i64 n] ↔ Run T Q (.ops os :: k) (put e d (.tup [rowsA (flO (joinL a b i j n)) (lstR (joinL a b i j n)), .int .i64 0])) σ := X42_spec h h0 hn h4

theorem X49_spec {f g : SlF} {a b : Rows} {i j n : Int} (h : JoinOk a b i j) (h0 : 0 ≤ n) (hn : n ≤ 32) (h4 : (joinL a b i j n).length ≤ 4096) {lv : List Nat} {σ : Sto} {R : Post} : Cw T true i_X49 [.agg [rowsA f a, rowsA g b, .int .i64 i, .int .i64 j], .int .i64 n] lv σ R ↔ R (.agg [rowsA (flO (joinL a b i j n)) (lstR (joinL a b i j n)), .int .i64 0]) σ := by
 refine cw_intro T_X49 (by simp only [go_sem]) (by simp) ?_; rw [run_unfold X49.main.eq_1]
 simp (maxSteps := 2000000) only [go_sem, X42_call h h0 hn h4]
 done
@[go_sem] theorem X49_call {f g : SlF} {a b : Rows} {i j n : Int} (h : JoinOk a b i j) (h0 : 0 ≤ n) (hn : n ≤ 32) (h4 : (joinL a b i j n).length ≤ 4096) {Q : Post3} {k : List Item} {os : List AOper} {d : Option Nat} {e : Env} {σ : Sto} : CallK T Q k os d e σ true i_X49 [.agg [rowsA f a, rowsA g b, .int .i64 i, .int .i64 j], .int .i64 n] ↔ Run T Q (.ops os :: k) (put e d (.agg [rowsA (flO (joinL a b i j n)) (lstR (joinL a b i j n)), .int .i64 0])) σ := X49_spec h h0 hn h4


theorem apz_row {o : Nat} {x : List Val} {n : Nat} {σ : Sto} (hσ : σ[o]? = some (rowO x)) (hb : x.length + n ≤ 2000000) :
  appendzV 3 32 [.int .i64 0, .int .i64 0, .str ⟨#[]⟩] (refV o x) (.int .i64 (n : Int)) σ = some (refV o (x ++ List.replicate n zV), σ.set o (rowO (x ++ List.replicate n zV))) := by
 have hl := cellsV_len x
 have e : (List.replicate n [AVal.int .i64 0, .int .i64 0, .str ⟨#[]⟩]).flatten = cellsV (List.replicate n zV) := by
  rw [cellsV, List.flatMap_def, List.map_replicate]; rfl
 simp only [appendzV, hσ, Int.toNat_natCast, e]
 rw [if_pos ⟨by omega, by simp only [maxBytes]; omega, by decide, hl, trivial, trivial, trivial, rfl⟩]
 simp only [refV, rowO, cellsV, List.length_append, List.length_replicate, List.flatMap_append]
theorem app_row {o : Nat} {f : SlF} {x : List Val} {σ : Sto} (hσ : σ[o]? = some (.cells false [])) (hb : x.length ≤ 1000000) : appendV 3 32 (.ref o 0 0 0 3) (rowA f x) σ = some (refV o x, σ.set o (rowO x)) := by
 have ha := appendV_structs (σ := σ) (o := o) (k := 3) (bytes := 32) (f := f) (g := fun v : Val => [.int .i64 v.k, .int .i64 v.i, .str v.s]) (X := []) (Y := x) (by decide) (fun _ => rfl) (fun _ => rfl) hσ (by simp only [List.length_nil, maxBytes]; omega)
 simp only [List.length_nil, Nat.zero_mul, List.nil_append] at ha
 exact ha

abbrev oS (z : Cas) (a b : Rows) (O J W : List (List Val)) (i j : Int) (ν : Sto) : Sto := .cells false [bytesA z.fa z.a, bytesA z.fb z.b, .int .u8 (z.wa : Int), .int .u8 (z.wb : Int), .int .u8 (z.o0 : Int), .int .u8 (z.o1 : Int)] ::
 .cells false [rowsA .lst a, rowsA .lst b, .int .i64 i, .int .i64 j] :: .cells false [rowsA (flO O) (lstR O), .int .i64 0] :: .cells false [rowsA (flO J) (lstR J), .int .i64 0] :: rowsSt W :: ν
abbrev oE (n : Nat) (at' : Nat) (w : Nat) (l : List (Nat × AVal)) : Env := mkE 139 ([(3, .bool true), (4, .ptr 1 4 0), (5, .int .i64 (n : Int)), (6, .ptr 2 2 0), (7, .ptr 3 2 0), (8, .int .i64 (at' : Int)), (9, .ref 4 w 0 w 1)] ++ l)

theorem lst_get {X : List (List Val)} {q : Nat} (h : q < X.length) : (lstR X)[q]'(by rw [List.length_map]; exact h) = (.lst, X[q]) := List.getElem_map ..
theorem outer_same {z : Cas} {a b : Rows} {O J Lk rest W1 : List (List Val)} {i j : Int} {n k : Nat} (hL : Lk.length ≤ 1000) (hO : O.length ≤ 5000) (hk : k ≤ 1000) (hW1 : W1.length ≤ 5000)
  (hfit : ∀ r ∈ Lk, Fits r ∧ ∀ v ∈ r, Short v)
  (next : ∀ (at' : Nat), at' ≤ O.length → O.drop at' = rest → Run T (Res [.tmp 2] (.bool true)) (.inLoop X14.b0 :: X14.k0) (oE n at' W1.length [(10, .int .i64 ((k + 1 : Nat) : Int))]) (oS z a b O J W1 i j [])) :
  ∀ q, q ≤ Lk.length → ∀ (W : List (List Val)) (at' : Nat), W ++ Lk.drop q = W1 → at' ≤ O.length → O.drop at' = Lk.drop q ++ rest →
  Run T (Res [.tmp 2] (.bool true)) (.inLoop X14.b1 :: X14.k1 5) (oE n at' W.length [(10, .int .i64 k), (11, rowsA (flO Lk) (lstR Lk)), (12, .int .i64 q)]) (oS z a b O J W i j []) := by
 refine up_ind (fun W at' hW ha hd => ?_) fun q hq ih W at' hW ha hd => ?_
 ·rw [run_round, run_unfold X14.b1.eq_1]
  rw [List.drop_length, List.nil_append] at hd
  rw [List.drop_length, List.append_nil] at hW
  subst hW
  have nx := next at' ha hd
  have w1 := wrap_succ (show k < 9223372036854775807 by omega)
  simp only [oE, oS, List.cons_append, List.nil_append] at nx
  simp (maxSteps := 2000000) only [go_sem, oE, oS, List.cons_append, List.nil_append, run_unfold X14.c0.eq_1, run_unfold X14.c1.eq_1, run_unfold X14.c2.eq_1, run_unfold X14.c3.eq_1, X14.k0, X14.k1, X14.k1, Int.lt_irrefl, w1]
  exact ⟨v_names_map (fun _ => sv_pure) _, nx⟩
 ·rw [List.drop_eq_getElem_cons hq] at hW hd
  obtain ⟨g1, g2, g3⟩ := drop_get (show O.drop at' = Lk[q] :: (Lk.drop (q + 1) ++ rest) from hd)
  have ih' := ih (W ++ [Lk[q]]) (at' + 1) (by rw [List.append_assoc]; exact hW) g1 g3
  have hWl : W.length + 1 ≤ 5000 := by
   have := congrArg List.length hW
   simp only [List.length_append, List.length_cons] at this; omega
  obtain ⟨f1, f2⟩ := hfit _ (List.getElem_mem hq)
  have hsame : ∀ {Q : Post3} {kk : List Item} {os : List AOper} {d : Option Nat} {e : Env} {σ : Sto}, CallK T Q kk os d e σ true i_X59 [rowA .lst Lk[q], rowA .lst Lk[q]] ↔ Run T Q (.ops os :: kk) (put e d (.bool true)) σ := by
   intro Q kk os d e σ
   have := X59_call (f := .lst) (g := .lst) (a := Lk[q]) (b := Lk[q]) f1 f1 f2 f2 (Q := Q) (k := kk) (os := os) (d := d) (e := e) (σ := σ)
   rwa [decide_eq_true rfl] at this
  have hge : ¬ ((O.length : Nat) : Int) ≤ (at' : Int) := by omega
  have e1 := lst_get g1
  rw [g2] at e1
  have e2 := lst_get hq
  have w1 := wrap_succ (show at' < 9223372036854775807 by omega)
  have w2 := wrap_succ (show q < 9223372036854775807 by omega)
  rw [run_round, run_unfold X14.b1.eq_1]
  simp (maxSteps := 2000000) only [go_sem, oE, oS, List.cons_append, List.nil_append, hq, hge, g1, e1, e2, hsame]
  rw [appendV_push (nl := false) (cs := W.map fun r => rowA .lst r) (v := rowA .lst Lk[q]) rfl rfl (by simp) sv_one' (by simp only [maxBytes]; omega)]
  simp only [oE, oS, List.cons_append, List.nil_append, List.length_append, List.length_cons, List.length_nil, Nat.zero_add] at ih'
  have hm : W.map (fun r => rowA .lst r) ++ [rowA .lst Lk[q]] = (W ++ [Lk[q]]).map fun r => rowA .lst r := by simp
  rw [hm]
  simp (maxSteps := 2000000) only [go_sem, w1, w2]
  exact ⟨v_names_map (fun _ => sv_pure) _, ih'⟩

theorem outer_rows {z : Cas} {a b : Rows} {i j : Int} {n : Nat} (h : Two a b z.m z.n i j) (hn : n ≤ 3) : ∀ k, k ≤ a.length → ∀ (W : List (List Val)) (at' : Nat), W ++ joinL (a.drop k) b i j (-1) = joinL a b i j (-1) → at' ≤ (joinL a b i j n).length → (joinL a b i j n).drop at' = joinL (a.drop k) b i j n →
  Run T (Res [.tmp 2] (.bool true)) (.inLoop X14.b0 :: X14.k0) (oE n at' W.length [(10, .int .i64 k)]) (oS z a b (joinL a b i j n) (joinL a b i j (-1)) W i j []) := by
 have la := h.ha.n
 have lJ := h.len
 have lO := h.lenN (w := n)
 refine up_ind (fun W at' hW ha hd => ?_) fun k hk ih W at' hW ha hd => ?_
 ·have e1 : at' = (joinL a b i j n).length := by
   have := congrArg List.length hd
   simp only [List.length_drop, List.drop_length, joinL, List.flatMap_nil, List.length_nil] at this ha ⊢; omega
  have e2 : W = joinL a b i j (-1) := by
   rw [← hW, List.drop_length, joinL, List.flatMap_nil, List.append_nil]
  subst e1 e2
  rw [run_round, run_unfold X14.b0.eq_1]
  simp (maxSteps := 2000000) only [go_sem, oE, oS, List.cons_append, List.nil_append, run_unfold X14.c0.eq_1, run_unfold X14.c1.eq_1, run_unfold X14.c2.eq_1, run_unfold X14.c3.eq_1, X14.k0, X14.k1, Int.lt_irrefl]
  have hf := h.fitJ
  refine (callK_live T_X23 (as := [rowsA .lst (lstR (joinL a b i j (-1))), rowsA (flO (joinL a b i j (-1))) (lstR (joinL a b i j (-1)))]) (fun {lv σ R} => X23_spec hf hf) ?_ (by simp (maxSteps := 2000000) only [go_sem]) rfl).2 ?_
  ·simp (maxSteps := 2000000) only [go_sem]
   rw [snap_rows (n := 62) (o := 4) (X := joinL a b i j (-1)) rfl]
   done
  rw [decide_eq_true rfl]
  simp (maxSteps := 2000000) only [go_sem]
  done
 ·have hone := h.sub (one_sub hk) (List.Sublist.refl b)
  have hx := h.ha.w _ (List.getElem_mem hk)
  have hm3 := h.hm
  have hn3 := h.hn
  have w1 := wrap_succ (show k < 9223372036854775807 by omega)
  have w2 := wrap_succ (show at' < 9223372036854775807 by omega)
  have cn := fun {Q : Post3} {kk : List Item} {os : List AOper} {d : Option Nat} {e : Env} {σ : Sto} => nested_one (g := .lst) hone (Q := Q) (k := kk) (os := os) (d := d) (e := e) (σ := σ)
  have so : ∀ {σ : Sto}, sliceV 1 (rowsA .lst a) (some (.int .i64 (k : Int))) (some (.int .i64 ((k + 1 : Nat) : Int))) none σ = some (.list 1 [rowA a[k].1 a[k].2], σ) := by
   intro σ
   exact (slice_sv_one (σ := σ) (g := fun p : SlF × List Val => rowA p.1 p.2) (l := a) (kd := .i64) (kd' := .i64) (k := 1) hk).trans (by rw [sv_lst]; rfl)
  rw [List.drop_eq_getElem_cons hk] at hW hd
  have s1 : ∀ w : Int, joinL (a[k] :: a.drop (k + 1)) b i j w = jrow (fun x => b.filter (partP x i j)) w a[k].2 ++ joinL (a.drop (k + 1)) b i j w := fun w => rfl
  rw [s1] at hW hd
  have s2 : joinL [a[k]] b i j (-1) = jrow (fun x => b.filter (partP x i j)) (-1) a[k].2 := by simp [joinL]
  have hfit := hone.fitJ
  rw [s2] at cn hfit
  by_cases hp : b.filter (partP a[k].2 i j) = []
  ·have j1 : jrow (fun x => b.filter (partP x i j)) (-1) a[k].2 = [] := by rw [jrow_neg, hp]; rfl
   have j2 : jrow (fun x => b.filter (partP x i j)) (n : Int) a[k].2 = [a[k].2 ++ List.replicate n zV] := by
    unfold jrow
    rw [if_pos ⟨hp, by omega⟩, Int.toNat_natCast]
   rw [j1] at cn hW
   rw [j2] at hd
   obtain ⟨g1, g2, g3⟩ := drop_get (show (joinL a b i j n).drop at' = (a[k].2 ++ List.replicate n zV) :: joinL (a.drop (k + 1)) b i j n from hd)
   have ih' := ih W (at' + 1) hW g1 g3
   have hge : ¬ (((joinL a b i j n).length : Nat) : Int) ≤ (at' : Int) := by omega
   have e1 := lst_get g1
   rw [g2] at e1
   rw [run_round, run_unfold X14.b0.eq_1]
   simp (maxSteps := 2000000) only [go_sem, oE, oS, List.cons_append, List.nil_append, hk, so, w1, cn, hge, g1, e1]
   rw [app_row rfl (by omega)]
   simp (maxSteps := 2000000) only [go_sem]
   rw [apz_row rfl (by omega)]
   simp (maxSteps := 2000000) only [go_sem]
   obtain ⟨v1, v2⟩ := (h.ha.fit h.hm).2 _ (List.getElem_mem hk)
   have v3 : Fits (a[k].2 ++ List.replicate n zV) := by show List.length _ < _; rw [List.length_append, List.length_replicate]; omega
   have v4 : ∀ v ∈ a[k].2 ++ List.replicate n zV, Short v := by
    intro v hv
    rcases List.mem_append.1 hv with hv | hv
    ·exact v2 v hv
    ·rw [(List.mem_replicate.1 hv).2]; exact tab_short 0
   refine (callK_live T_X59 (as := [rowA .lst (a[k].2 ++ List.replicate n zV), rowA .lst (a[k].2 ++ List.replicate n zV)]) (fun {lv σ R} => X59_spec v3 v3 v4 v4) ?_ (by simp (maxSteps := 2000000) only [go_sem]) rfl).2 ?_
   ·simp (maxSteps := 2000000) only [go_sem]
    rw [snap_row (n := 62) (o := 5) (r := a[k].2 ++ List.replicate n zV) rfl]
   rw [decide_eq_true rfl]
   simp (maxSteps := 2000000) only [go_sem, run_unfold X14.c0.eq_1, run_unfold X14.c1.eq_1, run_unfold X14.c2.eq_1, run_unfold X14.c3.eq_1, X14.k0, X14.k1, w2]
   rw [run_round, run_unfold X14.b1.eq_1]
   simp only [oE, oS, List.cons_append, List.nil_append] at ih'
   simp (maxSteps := 2000000) only [go_sem, run_unfold X14.c0.eq_1, run_unfold X14.c1.eq_1, run_unfold X14.c2.eq_1, run_unfold X14.c3.eq_1, X14.k0, X14.k1, X14.k1, w1, Int.lt_irrefl]
   exact ⟨v_names_map (fun _ => sv_pure) _, ih'⟩
  ·have j1 : (jrow (fun x => b.filter (partP x i j)) (-1) a[k].2).length ≠ 0 := by
    rw [jrow_neg, List.length_map]
    intro e
    exact hp (List.eq_nil_of_length_eq_zero e)
   have j2 : jrow (fun x => b.filter (partP x i j)) (n : Int) a[k].2 = jrow (fun x => b.filter (partP x i j)) (-1) a[k].2 := by
    rw [jrow_neg]
    unfold jrow
    rw [if_neg (fun e => hp e.1)]
   rw [j2] at hd
   generalize jrow (fun x => b.filter (partP x i j)) (-1) a[k].2 = Lk at *
   have j3 : ¬ ((Lk.length : Nat) : Int) = 0 := by omega
   rw [run_round, run_unfold X14.b0.eq_1]
   simp (maxSteps := 2000000) only [go_sem, oE, oS, List.cons_append, List.nil_append, hk, so, w1, cn, j3]
   have ih' := fun at2 g1 g3 => ih (W ++ Lk) at2 (by rw [List.append_assoc]; exact hW) g1 g3
   have hWl : (W ++ Lk).length ≤ 5000 := by
    have := congrArg List.length hW
    simp only [List.length_append] at this ⊢; omega
   have hLl : Lk.length ≤ 1000 := by simp only [List.length_append] at hWl; have := congrArg List.length hW; simp only [List.length_append] at this; omega
   have hs := outer_same (z := z) (a := a) (b := b) (J := joinL a b i j (-1)) (n := n) (k := k) hLl (show (joinL a b i j n).length ≤ 5000 by omega) (by omega) hWl (fun r hr => hfit.2 (.lst, r) (List.mem_map_of_mem hr)) ih' 0 (by omega) W at' rfl ha (by simpa using hd)
   simp only [oE, oS, List.cons_append, List.nil_append] at hs
   simp (maxSteps := 2000000) only [go_sem, run_unfold X14.c0.eq_1, run_unfold X14.c1.eq_1, run_unfold X14.c2.eq_1, run_unfold X14.c3.eq_1, X14.k0, X14.k1]
   exact hs
theorem X14_spec {z : Cas} (h : z.Ok) {lv : List Nat} {σ : Sto} {R : Post} : Cw T true i_X14 [z.v] lv σ R ↔ R (.bool true) σ := by
 refine cw_intro T_X14 (by simp only [go_sem]) (by simp) ?_; rw [run_unfold X14.main.eq_1]
 have h2 := z.two
 have hmade := fun {Q : Post3} {k : List Item} {os : List AOper} {d : Option Nat} {e : Env} {σ : Sto} => X62_call (z := z) h (Q := Q) (k := k) (os := os) (d := d) (e := e) (σ := σ)
 generalize z.A = a at h2 hmade
 generalize z.B = b at h2 hmade
 generalize z.i = i at h2 hmade
 generalize z.j = j at h2 hmade
 have hw := wid (w := z.wb)
 have hl := outer_rows (z := z) h2 h2.hn 0 (by omega) [] 0 rfl (by omega) rfl
 simp only [oE, oS, List.cons_append, List.nil_append, List.length_nil] at hl
 have co := fun {Q k os d e σ} => @X49_call .lst .lst a b i j ((z.n : Nat) : Int) h2.ok (by omega) (by have := h2.hn; omega) h2.lenN Q k os d e σ
 simp (maxSteps := 2000000) only [go_sem, hmade, hw, co, X36_call h2.ok h2.len4]
 exact hl
@[go_sem] theorem X14_call {z : Cas} (h : z.Ok) {Q : Post3} {k : List Item} {os : List AOper} {d : Option Nat} {e : Env} {σ : Sto} : CallK T Q k os d e σ true i_X14 [z.v] ↔ Run T Q (.ops os :: k) (put e d (.bool true)) σ := X14_spec h

end Go.Abs
/- Walks of chapter 40: rows in order. -/
set_option linter.unusedSimpArgs false
set_option linter.unusedVariables false
set_option maxRecDepth 100000
set_option maxHeartbeats 4000000
namespace Go.Abs
open Go
attribute [local go_sem_proc] Nat.reduceLT Nat.reduceEqDiff Nat.reduceLeDiff Nat.reduceAdd Nat.reduceSub Nat.reduceMul Int.reduceLT Int.reduceLE Int.reduceEq Int.reduceNeg
attribute [local go_sem_proc ↓] reduceIte

theorem sgn_anti (a b : Int) : sgn b a = - sgn a b := by unfold sgn; repeat' split
                                                         all_goals omega
theorem cmpL_anti : ∀ (x y : List UInt8), cmpL y x = - cmpL x y
  | [], [] => by simp [cmpL]
  | [], b :: y => by simp [cmpL]
  | a :: x, [] => by simp [cmpL]
  | a :: x, b :: y => by
    simp only [cmpL]
    by_cases h : a = b
    · subst h; simp [cmpL_anti x y]
    · have h' : ¬ b = a := fun e => h e.symm
      by_cases hl : a < b
      · have : ¬ b < a := fun h2 => UInt8.lt_irrefl a (UInt8.lt_trans hl h2)
        simp [h, h', hl, this]
      · have : b < a := by
          rcases UInt8.lt_or_lt_of_ne h with h2 | h2
          · exact absurd h2 hl
          · exact h2
        simp [h, h', hl, this]
theorem cmpV_anti (a b : Val) : cmpV b a = - cmpV a b := by
  unfold cmpV
  by_cases h1 : a.k = b.k
  · by_cases h2 : a.i = b.i
    · simp only [h1, h2, if_true]; exact cmpL_anti _ _
    · have h2' : ¬ b.i = a.i := fun e => h2 e.symm
      simp only [h1, h2, h2', if_true, if_false]; exact sgn_anti _ _
  · have h1' : ¬ b.k = a.k := fun e => h1 e.symm
    simp only [h1, h1', if_false]; exact sgn_anti _ _
theorem sgn_trans {a b c : Int} (h1 : sgn a b ≤ 0) (h2 : sgn b c ≤ 0) : sgn a c ≤ 0 ∧ (sgn a c = 0 → sgn a b = 0 ∧ sgn b c = 0) := by
  unfold sgn at *; repeat' split at h1
  all_goals repeat' split at h2
  all_goals repeat' split
  all_goals omega
theorem cmpL_trans : ∀ {x y z : List UInt8}, cmpL x y ≤ 0 → cmpL y z ≤ 0 → cmpL x z ≤ 0 ∧ (cmpL x z = 0 → cmpL x y = 0 ∧ cmpL y z = 0)
  | [], [], z, _, h2 => ⟨h2, fun h => ⟨rfl, h⟩⟩
  | [], b :: y, [], _, h2 => by simp [cmpL] at h2
  | [], b :: y, c :: z, _, _ => by simp [cmpL]
  | a :: x, [], z, h1, _ => by simp [cmpL] at h1
  | a :: x, b :: y, [], _, h2 => by simp [cmpL] at h2
  | a :: x, b :: y, c :: z, h1, h2 => by
    simp only [cmpL] at h1 h2 ⊢
    by_cases e1 : a = b
    · subst e1
      by_cases e2 : a = c
      · subst e2; simp only [if_true] at h1 h2 ⊢; exact cmpL_trans h1 h2
      · simp only [if_true, if_neg e2] at h1 h2 ⊢
        by_cases l : a < c
        · simp only [if_pos l]; omega
        · simp only [if_neg l] at h2; omega
    · simp only [if_neg e1] at h1 ⊢
      by_cases l : a < b
      · by_cases e2 : b = c
        · subst e2; simp only [if_neg e1, if_pos l]; omega
        · simp only [if_neg e2] at h2 ⊢
          by_cases l2 : b < c
          · have l3 := UInt8.lt_trans l l2
            have e3 : a ≠ c := fun e => by subst e; exact UInt8.lt_irrefl _ l3
            simp only [if_neg e3, if_pos l3]; omega
          · simp only [if_neg l2] at h2; omega
      · simp only [if_neg l] at h1; omega
theorem cmpV_trans {a b c : Val} (h1 : cmpV a b ≤ 0) (h2 : cmpV b c ≤ 0) : cmpV a c ≤ 0 ∧ (cmpV a c = 0 → cmpV a b = 0 ∧ cmpV b c = 0) := by
  unfold cmpV at *
  by_cases e1 : a.k = b.k
  · by_cases e2 : b.k = c.k
    · simp only [e1, e2, if_true] at h1 h2 ⊢
      by_cases e3 : a.i = b.i
      · by_cases e4 : b.i = c.i
        · simp only [e3, e4, if_true] at h1 h2 ⊢; exact cmpL_trans h1 h2
        · simp only [e3, e4, if_true, if_false] at h1 h2 ⊢
          exact ⟨h2, fun h => absurd (sgn_zero.1 h) e4⟩
      · by_cases e4 : b.i = c.i
        · have e5 : ¬ a.i = c.i := fun e => e3 (by omega)
          simp only [e3, e4, e5, if_true, if_false] at h1 h2 ⊢
          exact ⟨h1, fun h => absurd (sgn_zero.1 h) e5⟩
        · simp only [e3, e4, if_false] at h1 h2 ⊢
          have := sgn_trans h1 h2
          have e5 : ¬ a.i = c.i := fun e => by
            have := this.2 (sgn_zero.2 e)
            exact e3 (sgn_zero.1 this.1)
          simp only [e5, if_false]
          exact ⟨this.1, fun h => absurd (sgn_zero.1 h) e5⟩
    · simp only [e1, e2, if_true, if_false] at h1 h2 ⊢
      exact ⟨h2, fun h => absurd (sgn_zero.1 h) e2⟩
  · by_cases e2 : b.k = c.k
    · have e5 : ¬ a.k = c.k := fun e => e1 (by omega)
      simp only [e1, e2, e5, if_true, if_false] at h1 h2 ⊢
      exact ⟨h1, fun h => absurd (sgn_zero.1 h) e5⟩
    · simp only [e1, e2, if_false] at h1 h2 ⊢
      have := sgn_trans h1 h2
      have e5 : ¬ a.k = c.k := fun e => by
        have := this.2 (sgn_zero.2 e)
        exact e1 (sgn_zero.1 this.1)
      simp only [e5, if_false]
      exact ⟨this.1, fun h => absurd (sgn_zero.1 h) e5⟩
theorem cmpV_self (a : Val) : cmpV a a = 0 := cmpV_zero.2 rfl

def colAt (b : Rows) (j : Int) (k : Nat) : Val := colN (b.getD k (.lst, [])).2 j
theorem colAt_get {b : Rows} {j : Int} {k : Nat} (h : k < b.length) : colAt b j k = colN b[k].2 j := by
  unfold colAt; rw [List.getD_eq_getElem?_getD, List.getElem?_eq_getElem h]; rfl
def srtB (b : Rows) (j : Int) (lo n : Nat) : Bool := (List.range n).all fun t => decide (cmpV (colAt b j (lo + t)) (colAt b j (lo + t + 1)) ≤ 0)
theorem srtB_front {b : Rows} {j : Int} {lo n : Nat} : srtB b j lo (n + 1) = (decide (cmpV (colAt b j lo) (colAt b j (lo + 1)) ≤ 0) && srtB b j (lo + 1) n) := by
  unfold srtB
  rw [List.range_succ_eq_map, List.all_cons, List.all_map]
  congr 1
  congr 1
  funext t
  simp only [Function.comp, Nat.succ_eq_add_one]
  rw [show lo + (t + 1) = lo + 1 + t by omega]
theorem srtB_back {b : Rows} {j : Int} {lo n : Nat} : srtB b j lo (n + 1) = (srtB b j lo n && decide (cmpV (colAt b j (lo + n)) (colAt b j (lo + n + 1)) ≤ 0)) := by
  unfold srtB
  rw [List.range_succ, List.all_append, List.all_cons, List.all_nil, Bool.and_true]
abbrev srt (b : Rows) (j : Int) : Bool := srtB b j 0 (b.length - 1)

theorem colN_short {b : Rows} {j : Int} (hb : RowsFit b) (hj : AllCol b j) {p : SlF × List Val} (hp : p ∈ b) : Short (colN p.2 j) := by
  obtain ⟨_, h2⟩ := hb.2 _ hp
  have h3 := hj _ hp
  rw [← colN_get h3]
  exact h2 _ (List.getElem_mem _)
theorem X37_loop {f : SlF} {b : Rows} {j : Int} (hb : RowsFit b) (hj : AllCol b j) : ∀ (n i : Nat), b.length = i + 1 + n →
    Run T (Res [.tmp 4] (.bool (srtB b j i n))) (.inLoop X37.b0 :: X37.k0) (mkE 29 [(0, rowsA f b), (1, .int .i64 j), (5, .int .i64 ((i + 1 : Nat) : Int))]) [] := by
  have hb1 := hb.1
  intro n
  induction n with
  | zero =>
    intro i hn
    rw [run_round, run_unfold X37.b0.eq_1]
    have h1 : ¬ ((i + 1 : Nat) : Int) < b.length := by omega
    simp (maxSteps := 2000000) only [go_sem, run_unfold X37.c0.eq_1, X37.k0, h1]
    rfl
  | succ n ih =>
    intro i hn
    rw [run_round, run_unfold X37.b0.eq_1]
    have h1 : i + 1 < b.length := by omega
    have h2 : i < b.length := by omega
    have hj1 := hj _ (List.getElem_mem h1)
    have hj2 := hj _ (List.getElem_mem h2)
    have a1 := fun {σ : Sto} => @iaddrV_int' 3 b[i + 1].1 Val (fun v => .agg [.int .i64 v.k, .int .i64 v.i, .str v.s]) b[i + 1].2 .i64 j σ hj1
    have a2 := fun {σ : Sto} => @iaddrV_int' 3 b[i].1 Val (fun v => .agg [.int .i64 v.k, .int .i64 v.i, .str v.s]) b[i].2 .i64 j σ hj2
    simp only [colN_get hj1] at a1
    simp only [colN_get hj2] at a2
    have hw : IntKind.i64.wrap (((i + 1 : Nat) : Int) - 1) = (i : Int) := by rw [show ((i + 1 : Nat) : Int) - 1 = (i : Int) by omega]; exact wrap_nat (by omega)
    have w1 := wrap_succ (show i + 1 < 9223372036854775807 by omega)
    have s1 := colN_short hb hj (List.getElem_mem h1)
    have s2 := colN_short hb hj (List.getElem_mem h2)
    have hc := @X70_call (colN b[i].2 j) (colN b[i + 1].2 j) s2 s1
    rw [srtB_front, colAt_get h1, colAt_get h2]
    have ih' := ih (i + 1) (by omega)
    by_cases h : 0 < cmpV (colN b[i].2 j) (colN b[i + 1].2 j)
    · have h' : decide (cmpV (colN b[i].2 j) (colN b[i + 1].2 j) ≤ 0) = false := decide_eq_false (by omega)
      rw [h', Bool.false_and]
      simp (maxSteps := 2000000) only [go_sem, h1, h2, a1, a2, hw, hc, h, run_unfold X37.c0.eq_1, X37.k0]
      done
    · have h' : decide (cmpV (colN b[i].2 j) (colN b[i + 1].2 j) ≤ 0) = true := decide_eq_true (by omega)
      rw [h', Bool.true_and]
      simp (maxSteps := 2000000) only [go_sem, h1, h2, a1, a2, hw, hc, h, run_unfold X37.c0.eq_1, X37.k0, w1]
      exact ih'
theorem X37_spec {f : SlF} {b : Rows} {j : Int} (hb : RowsFit b) (hj : AllCol b j) {lv : List Nat} {σ : Sto} {R : Post} : Cw T true i_X37 [rowsA f b, .int .i64 j] lv σ R ↔ R (.bool (srt b j)) σ := by
  refine cw_intro T_X37 (by simp only [go_sem]) (by simp) ?_; rw [run_unfold X37.main.eq_1]
  simp (maxSteps := 2000000) only [go_sem]
  by_cases h0 : b.length = 0
  · have : b = [] := List.eq_nil_of_length_eq_zero h0
    subst this
    rw [run_round, run_unfold X37.b0.eq_1]
    simp (maxSteps := 2000000) only [go_sem, run_unfold X37.c0.eq_1, X37.k0]
    rfl
  · exact X37_loop (f := f) hb hj (b.length - 1) 0 (by omega)
@[go_sem] theorem X37_call {f : SlF} {b : Rows} {j : Int} (hb : RowsFit b) (hj : AllCol b j) {Q : Post3} {k : List Item} {os : List AOper} {d : Option Nat} {e : Env} {σ : Sto} : CallK T Q k os d e σ true i_X37 [rowsA f b, .int .i64 j] ↔ Run T Q (.ops os :: k) (put e d (.bool (srt b j))) σ := X37_spec hb hj


theorem X13_spec {f g : SlF} {x y : List Val} {j : Int} (hx : 0 ≤ j ∧ j < x.length) (hy : 0 ≤ j ∧ j < y.length) {lv : List Nat} {σ : Sto} {R : Post} : Cw T true i_X13 [rowA f x, rowA g y, .fptr [.int .i64 j]] lv σ R ↔ R (.int .i64 (cmpV (colN x j) (colN y j))) σ := by
  refine cw_intro T_X13 (by simp only [go_sem]) (by simp) ?_; rw [run_unfold X13.main.eq_1]
  have a1 := fun {σ : Sto} => @iaddrV_int' 3 f Val (fun v => .agg [.int .i64 v.k, .int .i64 v.i, .str v.s]) x .i64 j σ hx
  have a2 := fun {σ : Sto} => @iaddrV_int' 3 g Val (fun v => .agg [.int .i64 v.k, .int .i64 v.i, .str v.s]) y .i64 j σ hy
  simp only [colN_get hx] at a1
  simp only [colN_get hy] at a2
  simp (maxSteps := 2000000) only [go_sem, a1, a2, X46_call]
  done
@[go_sem] theorem X13_call {f g : SlF} {x y : List Val} {j : Int} (hx : 0 ≤ j ∧ j < x.length) (hy : 0 ≤ j ∧ j < y.length) {Q : Post3} {k : List Item} {os : List AOper} {d : Option Nat} {e : Env} {σ : Sto} : CallK T Q k os d e σ true i_X13 [rowA f x, rowA g y, .fptr [.int .i64 j]] ↔ Run T Q (.ops os :: k) (put e d (.int .i64 (cmpV (colN x j) (colN y j)))) σ := X13_spec hx hy

theorem X18_spec {j : Int} {lv : List Nat} {σ : Sto} {R : Post} : Cw T true i_X18 [.int .i64 j] lv σ R ↔ R (.clo (.func i_X13) [] [.fptr [.int .i64 j]]) σ := by
  refine cw_intro T_X18 (by simp only [go_sem]) (by simp) ?_; rw [run_unfold X18.main.eq_1]
  have hs := snap_clo1 (n := 61) (o := 0) (gen := 1) (nl := false) (cs := [.int .i64 j]) (g := .func i_X13) (σ := [.cells false [.int .i64 j]]) rfl rfl (by simp (maxSteps := 2000000) only [go_sem])
  simp (maxSteps := 2000000) only [go_sem, hs]
  done
@[go_sem] theorem X18_call {j : Int} {Q : Post3} {k : List Item} {os : List AOper} {d : Option Nat} {e : Env} {σ : Sto} : CallK T Q k os d e σ true i_X18 [.int .i64 j] ↔ Run T Q (.ops os :: k) (put e d (.clo (.func i_X13) [] [.fptr [.int .i64 j]])) σ := X18_spec

theorem IsSorted_loop {f : SlF} {b : Rows} {j : Int} (hb : RowsFit b) (hj : AllCol b j) : ∀ i, i < b.length →
    Run T (Res [.tmp 4] (.bool (srtB b j 0 i))) (.inLoop X1.b0 :: X1.k0) (mkE 25 [(0, rowsA f b), (1, .clo (.func i_X13) [] [.fptr [.int .i64 j]]), (5, .int .i64 (i : Int))]) [] := by
  have hb1 := hb.1
  intro i
  induction i with
  | zero =>
    intro hi
    rw [run_round, run_unfold X1.b0.eq_1]
    simp (maxSteps := 2000000) only [go_sem, run_unfold X1.c0.eq_1, run_unfold X1.c1.eq_1, X1.k0, Int.lt_irrefl]
    rfl
  | succ i ih =>
    intro h1
    rw [run_round, run_unfold X1.b0.eq_1]
    have h2 : i < b.length := by omega
    have hj1 := hj _ (List.getElem_mem h1)
    have hj2 := hj _ (List.getElem_mem h2)
    have hw : IntKind.i64.wrap (((i + 1 : Nat) : Int) - 1) = (i : Int) := by rw [show ((i + 1 : Nat) : Int) - 1 = (i : Int) by omega]; exact wrap_nat (by omega)
    have h0 : (0 : Int) < ((i + 1 : Nat) : Int) := by omega
    have hc := @X13_call b[i + 1].1 b[i].1 b[i + 1].2 b[i].2 j hj1 hj2
    rw [srtB_back, Nat.zero_add, colAt_get h1, colAt_get h2]
    have ih' := ih h2
    have an := cmpV_anti (colN b[i].2 j) (colN b[i + 1].2 j)
    by_cases h : cmpV (colN b[i + 1].2 j) (colN b[i].2 j) < 0
    · have h' : decide (cmpV (colN b[i].2 j) (colN b[i + 1].2 j) ≤ 0) = false := decide_eq_false (by omega)
      rw [h', Bool.and_false]
      simp (maxSteps := 2000000) only [go_sem, h0, h1, h2, hw, hc, h, run_unfold X1.c0.eq_1, run_unfold X1.c1.eq_1, X1.k0]
      done
    · have h' : decide (cmpV (colN b[i].2 j) (colN b[i + 1].2 j) ≤ 0) = true := decide_eq_true (by omega)
      rw [h', Bool.and_true]
      simp (maxSteps := 2000000) only [go_sem, h0, h1, h2, hw, hc, h, run_unfold X1.c0.eq_1, run_unfold X1.c1.eq_1, X1.k0]
      exact ih'
theorem X1_spec {f : SlF} {b : Rows} {j : Int} (hb : RowsFit b) (hj : AllCol b j) {lv : List Nat} {σ : Sto} {R : Post} : Cw T true i_X1 [rowsA f b, .clo (.func i_X13) [] [.fptr [.int .i64 j]]] lv σ R ↔ R (.bool (srt b j)) σ := by
  refine cw_intro T_X1 (by simp only [go_sem]) (by simp) ?_; rw [run_unfold X1.main.eq_1]
  have hb1 := hb.1
  by_cases h0 : b.length = 0
  · have : b = [] := List.eq_nil_of_length_eq_zero h0
    subst this
    have hm : IntKind.i64.wrap (0 - 1) = -1 := by decide
    simp (maxSteps := 2000000) only [go_sem, hm]
    rw [run_round, run_unfold X1.b0.eq_1]
    simp (maxSteps := 2000000) only [go_sem, run_unfold X1.c0.eq_1, run_unfold X1.c1.eq_1, X1.k0, show ¬ (0 : Int) < -1 by decide]
    rfl
  · have hw : IntKind.i64.wrap ((b.length : Int) - 1) = ((b.length - 1 : Nat) : Int) := by rw [wrap_i64 (by omega) (by omega)]; omega
    simp (maxSteps := 2000000) only [go_sem, hw]
    exact IsSorted_loop (f := f) hb hj (b.length - 1) (by omega)
@[go_sem] theorem X1_call {f : SlF} {b : Rows} {j : Int} (hb : RowsFit b) (hj : AllCol b j) {Q : Post3} {k : List Item} {os : List AOper} {d : Option Nat} {e : Env} {σ : Sto} : CallK T Q k os d e σ true i_X1 [rowsA f b, .clo (.func i_X13) [] [.fptr [.int .i64 j]]] ↔ Run T Q (.ops os :: k) (put e d (.bool (srt b j))) σ := X1_spec hb hj

end Go.Abs
/- Walks of chapter 40: the reference's Sort. -/
set_option linter.unusedSimpArgs false
set_option linter.unusedVariables false
set_option maxRecDepth 100000
set_option maxHeartbeats 4000000
namespace Go.Abs
open Go
attribute [local go_sem_proc] Nat.reduceLT Nat.reduceEqDiff Nat.reduceLeDiff Nat.reduceAdd Nat.reduceSub Nat.reduceMul Int.reduceLT Int.reduceLE Int.reduceEq Int.reduceNeg
attribute [local go_sem_proc ↓] reduceIte

def atN (D : Rows) (v : Val) (j : Int) : Nat → Nat
 | 0 => 0
 | n + 1 => if cmpV v (colAt D j n) < 0 then atN D v j n else n + 1
theorem atN_le {D : Rows} {v : Val} {j : Int} : ∀ n, atN D v j n ≤ n
 | 0 => Nat.le_refl _
 | n + 1 => by unfold atN; split; exact Nat.le_succ_of_le (atN_le n); exact Nat.le_refl _
def insR (D : Rows) (p : SlF × List Val) (j : Int) : Rows := D.take (atN D (colN p.2 j) j D.length) ++ p :: D.drop (atN D (colN p.2 j) j D.length)
def srtL (l : Rows) (j : Int) (D : Rows) : Rows := l.foldl (fun D p => insR D p j) D

theorem sort_at {f : SlF} {l D : Rows} {j : Int} {i : Nat} {Q : Post3} {K : List Item} {σ : Sto} (hl : RowsFit l) (hj : AllCol l j) (hD : RowsFit D) (hjD : AllCol D j) (hi : i < l.length) : ∀ n, n ≤ D.length →
  Run T Q K (mkE 56 [(0, rowsA f l), (1, .int .i64 j), (5, rowsA .lst D), (6, .int .i64 i), (7, .int .i64 (atN D (colN l[i].2 j) j n : Nat))]) σ →
  Run T Q (.inLoop X65.b1 :: .inBlock 2 :: .code (.ghost (.kill [37])) :: K) (mkE 56 [(0, rowsA f l), (1, .int .i64 j), (5, rowsA .lst D), (6, .int .i64 i), (7, .int .i64 n)]) σ := by
 have hl1 := hl.1
 have hD1 := hD.1
 have hj1 := hj _ (List.getElem_mem hi)
 have a1 := fun {σ : Sto} => @iaddrV_int' 3 l[i].1 Val (fun v => .agg [.int .i64 v.k, .int .i64 v.i, .str v.s]) l[i].2 .i64 j σ hj1
 simp only [colN_get hj1] at a1
 have s1 := colN_short hl hj (List.getElem_mem hi)
 intro n
 induction n with
 | zero =>
  intro hn next
  rw [run_round, run_unfold X65.b1.eq_1]
  simp (maxSteps := 2000000) only [go_sem, Int.lt_irrefl]
  exact next
 | succ n ih =>
  intro hn next
  rw [run_round, run_unfold X65.b1.eq_1]
  have h2 : n < D.length := by omega
  have h0 : (0 : Int) < ((n + 1 : Nat) : Int) := by omega
  have hw : IntKind.i64.wrap (((n + 1 : Nat) : Int) - 1) = (n : Int) := by rw [show ((n + 1 : Nat) : Int) - 1 = (n : Int) by omega]; exact wrap_nat (by omega)
  have hj2 := hjD _ (List.getElem_mem h2)
  have a2 := fun {σ : Sto} => @iaddrV_int' 3 D[n].1 Val (fun v => .agg [.int .i64 v.k, .int .i64 v.i, .str v.s]) D[n].2 .i64 j σ hj2
  simp only [colN_get hj2] at a2
  have s2 := colN_short hD hjD (List.getElem_mem h2)
  have hc := @X70_call (colN l[i].2 j) (colN D[n].2 j) s1 s2
  unfold atN at next
  rw [colAt_get h2] at next
  by_cases h : cmpV (colN l[i].2 j) (colN D[n].2 j) < 0
  ·rw [if_pos h] at next
   have ih' := ih (by omega) next
   simp (maxSteps := 2000000) only [go_sem, h0, hw, hi, h2, a1, a2, hc, h]
   exact ih'
  ·rw [if_neg h] at next
   simp (maxSteps := 2000000) only [go_sem, h0, hw, hi, h2, a1, a2, hc, h]
   exact next

theorem freeze_rows {σ : Sto} {o : Nat} {l : Rows} (hσ : σ[o]? = some (.cells false (l.map fun p => rowA p.1 p.2))) : freezeV (.ref o l.length 0 l.length 1) σ = some (rowsA .lst l, σ.set o .dead) := by
 have hl : (l.map fun p => rowA p.1 p.2).length = l.length := List.length_map ..
 have hp : AVal.pures (l.map fun p => rowA p.1 p.2) = true := v_names_map (fun _ => sv_pure) l
 simp only [freezeV, hσ, hl, hp, Nat.zero_add, Nat.mul_one, Nat.le_refl, true_and, and_self, Bool.false_and, List.drop_zero, Bool.false_eq_true, if_false, Nat.zero_lt_one, if_true]
 have hc := chunk_one (l.map fun p => rowA p.1 p.2)
 rw [hl] at hc
 rw [List.take_of_length_le (by rw [hl]; exact Nat.le_refl _), hc, rowsA, sv_lst]
theorem insR_mem {D : Rows} {p : SlF × List Val} {j : Int} {q : SlF × List Val} (h : q ∈ insR D p j) : q = p ∨ q ∈ D := by
 unfold insR at h
 rcases List.mem_append.1 h with h | h
 ·exact .inr (List.mem_of_mem_take h)
 ·rcases List.mem_cons.1 h with h | h
  ·exact .inl h
  ·exact .inr (List.mem_of_mem_drop h)
theorem insR_fit {D : Rows} {p : SlF × List Val} {j : Int} (hn : D.length < 1000000) (h : RowsFit D) (hp : Fits p.2 ∧ ∀ v ∈ p.2, Short v) : RowsFit (insR D p j) := by
 refine ⟨by simp only [insR, List.length_append, List.length_cons, List.length_take, List.length_drop]; omega, fun q hq => ?_⟩
 rcases insR_mem hq with rfl | hq
 ·exact hp
 ·exact h.2 _ hq
theorem insR_all {D : Rows} {p : SlF × List Val} {j : Int} (h : AllCol D j) (hp : 0 ≤ j ∧ j < p.2.length) : AllCol (insR D p j) j := by
 intro q hq
 rcases insR_mem hq with rfl | hq
 ·exact hp
 ·exact h _ hq
theorem sort_loop {f : SlF} {l : Rows} {j : Int} (hl : RowsFit l) (hj : AllCol l j) : ∀ i, i ≤ l.length → ∀ D, D.length = i → RowsFit D → AllCol D j →
  Run T (Res [.tmp 4] (rowsA .lst (srtL (l.drop i) j D))) (.inLoop X65.b0 :: X65.k0) (mkE 56 [(0, rowsA f l), (1, .int .i64 j), (5, rowsA .lst D), (6, .int .i64 i)]) [.dead] := by
 have hl1 := hl.1
 refine up_ind (fun D h1 h2 h3 => ?_) fun i hi ih D h1 h2 h3 => ?_
 ·rw [run_round, run_unfold X65.b0.eq_1]
  simp (maxSteps := 2000000) only [go_sem, run_unfold X65.c0.eq_1, run_unfold X65.c1.eq_1, run_unfold X65.c2.eq_1, run_unfold X65.c3.eq_1, X65.k0, X65.k1, List.drop_length, Int.lt_irrefl]
  rfl
 ·rw [List.drop_eq_getElem_cons hi]
  rw [run_round, run_unfold X65.b0.eq_1]
  have hsl : srtL (l[i] :: l.drop (i + 1)) j D = srtL (l.drop (i + 1)) j (insR D l[i] j) := rfl
  rw [hsl]
  have hK := atN_le (D := D) (v := colN l[i].2 j) (j := j) D.length
  have h4 := ih (insR D l[i] j) (by simp only [insR, List.length_append, List.length_cons, List.length_take, List.length_drop]; omega) (insR_fit (by omega) h2 (hl.2 _ (List.getElem_mem hi))) (insR_all h3 (hj _ (List.getElem_mem hi)))
  have w1 := wrap_succ (show i < 9223372036854775807 by omega)
  simp (maxSteps := 2000000) only [go_sem, hi, X65.k1]
  refine sort_at hl hj h2 h3 hi D.length (Nat.le_refl _) ?_
  unfold insR at h4 ⊢
  generalize atN D (colN l[i].2 j) j D.length = K at hK h4 ⊢
  have t1 := fun {σ : Sto} => @slice_sv_take σ (SlF × List Val) (fun p => rowA p.1 p.2) D .i64 1 K hK
  have t2 := fun {σ : Sto} => @slice_sv_drop σ (SlF × List Val) (fun p => rowA p.1 p.2) D .i64 1 K hK
  have hlen : (D.take K).length + (D.drop K).length = D.length := by rw [← List.length_append, List.take_append_drop]
  generalize D.take K = X at *
  generalize D.drop K = Y at *
  have g1 := fun {σ : Sto} (hσ : σ[1]? = some (.cells false [])) => appendV_ones (σ := σ) (o := 1) (bytes := 24) (f := .lst) (g := fun p : SlF × List Val => rowA p.1 p.2) (X := []) (Y := X) (fun _ => sv_one') hσ (by simp only [List.length_nil, maxBytes]; omega)
  have g2 := fun {σ : Sto} (hσ : σ[1]? = some (.cells false (X.map fun p => rowA p.1 p.2))) (hσ' : σ[2]? = some (.cells false [rowA l[i].1 l[i].2])) => appendV_one (σ := σ) (o := 1) (o' := 2) (bytes := 24) (g := fun p : SlF × List Val => rowA p.1 p.2) (X := X) (y := l[i]) (fun _ => sv_one') hσ hσ' (by simp only [maxBytes]; omega)
  have g3 := fun {σ : Sto} (hσ : σ[1]? = some (.cells false ((X ++ [l[i]]).map fun p => rowA p.1 p.2))) => appendV_ones (σ := σ) (o := 1) (bytes := 24) (f := .lst) (g := fun p : SlF × List Val => rowA p.1 p.2) (X := X ++ [l[i]]) (Y := Y) (fun _ => sv_one') hσ (by simp only [List.length_append, List.length_cons, List.length_nil, maxBytes]; omega)
  simp only [List.length_nil, List.nil_append] at g1
  simp (maxSteps := 2000000) only [go_sem, run_unfold X65.c0.eq_1, run_unfold X65.c1.eq_1, run_unfold X65.c2.eq_1, run_unfold X65.c3.eq_1, X65.k0, X65.k1, t1, t2]
  rw [g1 rfl]
  simp (maxSteps := 2000000) only [go_sem, hi]
  rw [g2 rfl rfl]
  simp (maxSteps := 2000000) only [go_sem, t2]
  rw [g3 rfl]
  simp (maxSteps := 2000000) only [go_sem, run_unfold X65.c0.eq_1, run_unfold X65.c1.eq_1, run_unfold X65.c2.eq_1, run_unfold X65.c3.eq_1, X65.k0, X65.k1]
  rw [freeze_rows (l := X ++ [l[i]] ++ Y) rfl]
  rw [List.append_assoc, List.singleton_append] at *
  simp (maxSteps := 2000000) only [go_sem, run_unfold X65.c0.eq_1, run_unfold X65.c1.eq_1, run_unfold X65.c2.eq_1, run_unfold X65.c3.eq_1, X65.k0, X65.k1, w1]
  exact h4
theorem X65_spec {f : SlF} {l : Rows} {j : Int} (hl : RowsFit l) (hj : AllCol l j) {lv : List Nat} {σ : Sto} {R : Post} : Cw T true i_X65 [rowsA f l, .int .i64 j] lv σ R ↔ R (rowsA .lst (srtL l j [])) σ := by
 refine cw_intro T_X65 (by simp only [go_sem]) (by simp) ?_; rw [run_unfold X65.main.eq_1]
 have h0 := sort_loop (f := f) hl hj 0 (by omega) [] rfl ⟨by simp, fun p hp => by simp at hp⟩ (fun p hp => by simp at hp)
 simp only [List.drop_zero] at h0
 have fz := freeze_rows (σ := [.cells false []]) (o := 0) (l := []) rfl
 simp only [List.length_nil] at fz
 simp (maxSteps := 2000000) only [go_sem, fz]
 exact h0
@[go_sem] theorem X65_call {f : SlF} {l : Rows} {j : Int} (hl : RowsFit l) (hj : AllCol l j) {Q : Post3} {k : List Item} {os : List AOper} {d : Option Nat} {e : Env} {σ : Sto} : CallK T Q k os d e σ true i_X65 [rowsA f l, .int .i64 j] ↔ Run T Q (.ops os :: k) (put e d (rowsA .lst (srtL l j []))) σ := X65_spec hl hj

end Go.Abs
/- Walks of chapter 40: partners by merging. -/
set_option linter.unusedSimpArgs false
set_option linter.unusedVariables false
set_option maxRecDepth 100000
set_option maxHeartbeats 4000000
namespace Go.Abs
open Go
attribute [local go_sem_proc] Nat.reduceLT Nat.reduceEqDiff Nat.reduceLeDiff Nat.reduceAdd Nat.reduceSub Nat.reduceMul Int.reduceLT Int.reduceLE Int.reduceEq Int.reduceNeg
attribute [local go_sem_proc ↓] reduceIte

abbrev mS (X : AObj) (g : SlF) (b : Rows) (i j : Int) (m : Nat) (τ : Sto) : Sto := X :: .cells false [rowsA g b] :: .cells false [.int .i64 i, .int .i64 j] :: .cells false [.int .i64 (m : Int)] :: τ
abbrev mC : AVal := .clo (.func i_X26) [] [.ptr 2 2 0, .ptr 3 1 0, .ptr 1 1 0]
theorem merge_call {g : SlF} {b : Rows} {i j : Int} {X : AObj} {R : Post} : Cw T false i_X43 [rowsA g b, onA i j] [] [X] R ↔ R mC (mS X g b i j 0 []) := by
 rw [cw_enter T_X43 (by simp), run_unfold X43.main.eq_1]
 simp (maxSteps := 2000000) only [go_sem]
 exact Iff.rfl
def lessP (j : Int) (v : Val) (q : SlF × List Val) : Bool := decide (cmpV (colN q.2 j) v < 0)
def sameP (j : Int) (v : Val) (q : SlF × List Val) : Bool := !decide (v.k = 0) && decide (colN q.2 j = v)
def skipN (b : Rows) (j : Int) (v : Val) (m : Nat) : Nat := m + ((b.drop m).takeWhile (lessP j v)).length
def sameN (b : Rows) (j : Int) (v : Val) (m : Nat) : Nat := m + ((b.drop m).takeWhile (sameP j v)).length

theorem skip_end {b : Rows} {j : Int} {v : Val} : skipN b j v b.length = b.length := by simp [skipN]
theorem same_end {b : Rows} {j : Int} {v : Val} : sameN b j v b.length = b.length := by simp [sameN]
theorem skip_yes {b : Rows} {j : Int} {v : Val} {k : Nat} (hk : k < b.length) (h : lessP j v b[k] = true) : skipN b j v k = skipN b j v (k + 1) := by
 simp only [skipN, List.drop_eq_getElem_cons hk, List.takeWhile_cons, h, if_true, List.length_cons]; omega
theorem skip_no {b : Rows} {j : Int} {v : Val} {k : Nat} (hk : k < b.length) (h : lessP j v b[k] = false) : skipN b j v k = k := by
 simp only [skipN, List.drop_eq_getElem_cons hk, List.takeWhile_cons, h, Bool.false_eq_true, if_false, List.length_nil, Nat.add_zero]
theorem same_yes {b : Rows} {j : Int} {v : Val} {k : Nat} (hk : k < b.length) (h : sameP j v b[k] = true) : sameN b j v k = sameN b j v (k + 1) := by
 simp only [sameN, List.drop_eq_getElem_cons hk, List.takeWhile_cons, h, if_true, List.length_cons]; omega
theorem same_no {b : Rows} {j : Int} {v : Val} {k : Nat} (hk : k < b.length) (h : sameP j v b[k] = false) : sameN b j v k = k := by
 simp only [sameN, List.drop_eq_getElem_cons hk, List.takeWhile_cons, h, Bool.false_eq_true, if_false, List.length_nil, Nat.add_zero]
theorem skip_le {b : Rows} {j : Int} {v : Val} {k : Nat} (h : k ≤ b.length) : k ≤ skipN b j v k ∧ skipN b j v k ≤ b.length := by
 unfold skipN
 have := (List.takeWhile_sublist (lessP j v) (l := b.drop k)).length_le
 rw [List.length_drop] at this; omega
theorem same_le {b : Rows} {j : Int} {v : Val} {k : Nat} (h : k ≤ b.length) : k ≤ sameN b j v k ∧ sameN b j v k ≤ b.length := by
 unfold sameN
 have := (List.takeWhile_sublist (sameP j v) (l := b.drop k)).length_le
 rw [List.length_drop] at this; omega

theorem merge1_same {g : SlF} {b : Rows} {i j : Int} {X : AObj} {τ : Sto} {v : Val} {m : Nat} {Q : Post3} (hb : RowsFit b) (hj : AllCol b j) : ∀ k, k ≤ b.length →
  Run T Q (.code X26.c0 :: []) (mkE 61 [(1, .ptr 2 2 0), (2, .ptr 3 1 0), (3, .ptr 1 1 0), (7, .int .i64 (sameN b j v k : Nat))]) (mS X g b i j m (τ ++ [vO v])) →
  Run T Q (.inLoop X26.b1 :: X26.k1) (mkE 61 [(1, .ptr 2 2 0), (2, .ptr 3 1 0), (3, .ptr 1 1 0), (6, .ptr (τ.length + 4) 3 0), (7, .int .i64 k)]) (mS X g b i j m (τ ++ [vO v])) := by
 have hb1 := hb.1
 refine up_ind (fun next => ?_) fun k hk ih next => ?_
 ·rw [run_round, run_unfold X26.b1.eq_1]
  rw [same_end] at next
  simp only [mS] at next
  simp (maxSteps := 2000000) only [go_sem, mS]
  exact next
 ·rw [run_round, run_unfold X26.b1.eq_1]
  have hj2 := hj _ (List.getElem_mem hk)
  have a2 := fun {σ : Sto} => @iaddrV_int' 3 b[k].1 Val (fun v => .agg [.int .i64 v.k, .int .i64 v.i, .str v.s]) b[k].2 .i64 j σ hj2
  simp only [colN_get hj2] at a2
  have w1 := wrap_succ (show k < 9223372036854775807 by omega)
  simp only [mS] at next ih
  by_cases h0 : v.k = 0
  ·have hs : sameP j v b[k] = false := by simp [sameP, h0]
   rw [same_no hk hs] at next
   simp (maxSteps := 2000000) only [go_sem, mS, hk, get_last, h0]
   exact next
  ·by_cases he : colN b[k].2 j = v
   ·have hs : sameP j v b[k] = true := by simp [sameP, h0, he]
    have he' : decide (colN b[k].2 j = v) = true := decide_eq_true he
    rw [same_yes hk hs] at next
    simp (maxSteps := 2000000) only [go_sem, mS, hk, get_last, h0, a2, val_eta, he', w1]
    exact ih next
   ·have hs : sameP j v b[k] = false := by simp [sameP, h0, he]
    have he' : decide (colN b[k].2 j = v) = false := decide_eq_false he
    rw [same_no hk hs] at next
    simp (maxSteps := 2000000) only [go_sem, mS, hk, get_last, h0, a2, val_eta, he', w1]
    exact next
theorem merge1_skip {g : SlF} {b : Rows} {i j : Int} {X : AObj} {τ : Sto} {v : Val} {Q : Post3} (hb : RowsFit b) (hj : AllCol b j) : ∀ m, m ≤ b.length →
  Run T Q (.code X26.c1 :: []) (mkE 61 [(1, .ptr 2 2 0), (2, .ptr 3 1 0), (3, .ptr 1 1 0), (6, .ptr (τ.length + 4) 3 0)]) (mS X g b i j (skipN b j v m) (τ ++ [vO v])) →
  Run T Q (.inLoop X26.b0 :: X26.k0) (mkE 61 [(1, .ptr 2 2 0), (2, .ptr 3 1 0), (3, .ptr 1 1 0), (6, .ptr (τ.length + 4) 3 0)]) (mS X g b i j m (τ ++ [vO v])) := by
 have hb1 := hb.1
 refine up_ind (fun next => ?_) fun k hk ih next => ?_
 ·rw [run_round, run_unfold X26.b0.eq_1]
  rw [skip_end] at next
  simp only [mS] at next
  simp (maxSteps := 2000000) only [go_sem, mS]
  exact next
 ·rw [run_round, run_unfold X26.b0.eq_1]
  have hj2 := hj _ (List.getElem_mem hk)
  have a2 := fun {σ : Sto} => @iaddrV_int' 3 b[k].1 Val (fun v => .agg [.int .i64 v.k, .int .i64 v.i, .str v.s]) b[k].2 .i64 j σ hj2
  simp only [colN_get hj2] at a2
  have w1 := wrap_succ (show k < 9223372036854775807 by omega)
  have hc := @X46_call (colN b[k].2 j) v
  simp only [mS] at next ih
  by_cases h : cmpV (colN b[k].2 j) v < 0
  ·have hs : lessP j v b[k] = true := decide_eq_true h
   rw [skip_yes hk hs] at next
   simp (maxSteps := 2000000) only [go_sem, mS, hk, get_last, a2, val_eta, hc, h, w1]
   exact ih next
  ·have hs : lessP j v b[k] = false := decide_eq_false h
   rw [skip_no hk hs] at next
   simp (maxSteps := 2000000) only [go_sem, mS, hk, get_last, a2, val_eta, hc, h, w1]
   exact next
abbrev partM (b : Rows) (j : Int) (v : Val) (m : Nat) : Rows := (b.take (sameN b j v (skipN b j v m))).drop (skipN b j v m)
def slF (g : SlF) (b : Rows) : SlF := if b = [] then g else .lst
theorem slice_rows {g : SlF} {b : Rows} {lo hi : Nat} {σ : Sto} (hg : g ≠ .emp) (h1 : lo ≤ hi) (h2 : hi ≤ b.length) : sliceV 1 (rowsA g b) (some (.int .i64 (lo : Int))) (some (.int .i64 (hi : Int))) none σ = some (rowsA (slF g b) ((b.take hi).drop lo), σ) := by
 by_cases hb : b = []
 ·subst hb
  have e1 : hi = 0 := by simpa using h2
  have e2 : lo = 0 := by omega
  subst e1 e2
  cases g
  ·rfl
  ·exact absurd rfl hg
  ·rfl
 ·have e : rowsA g b = .list 1 (b.map fun p => rowA p.1 p.2) := sv_ne (by simpa using hb)
  rw [e, slice_mid h1 (by rw [List.length_map]; exact h2), ← List.map_take, ← List.map_drop, slF, if_neg hb, rowsA, sv_lst]
theorem merge1_call {fx g : SlF} {x : List Val} {b : Rows} {i j : Int} {X : AObj} {τ : Sto} {m : Nat} {R : Post} (hg : g ≠ .emp) (hb : RowsFit b) (hj : AllCol b j) (hi : 0 ≤ i ∧ i < x.length) (hm : m ≤ b.length)
  (hR : R (.clo (.func i_X5) [] [.fptr [rowsA (slF g b) (partM b j (colN x i) m)]]) (mS X g b i j (skipN b j (colN x i) m) (τ ++ [vO (colN x i)]))) : Cw T false i_X26 [rowA fx x, .ptr 2 2 0, .ptr 3 1 0, .ptr 1 1 0] [] (mS X g b i j m τ) R := by
 have a1 := fun {σ : Sto} => @iaddrV_int' 3 fx Val (fun v => .agg [.int .i64 v.k, .int .i64 v.i, .str v.s]) x .i64 i σ hi
 simp only [colN_get hi] at a1
 have l1 := skip_le (b := b) (j := j) (v := colN x i) hm
 have l2 := same_le (b := b) (j := j) (v := colN x i) l1.2
 rw [cw_enter T_X26 (by simp), run_unfold X26.main.eq_1]
 simp (maxSteps := 2000000) only [go_sem, mS, a1, get_last, set_last]
 refine merge1_skip (v := colN x i) hb hj m hm ?_
 simp (maxSteps := 2000000) only [go_sem, run_unfold X26.c0.eq_1, run_unfold X26.c1.eq_1, X26.k0, X26.k1, mS]
 refine merge1_same (v := colN x i) hb hj _ l1.2 ?_
 have hsl : ∀ {σ : Sto}, sliceV 1 (rowsA g b) (some (.int .i64 ((skipN b j (colN x i) m : Nat) : Int))) (some (.int .i64 ((sameN b j (colN x i) (skipN b j (colN x i) m) : Nat) : Int))) none σ = some (rowsA (slF g b) (partM b j (colN x i) m), σ) := by
  intro σ
  exact slice_rows hg l2.1 l2.2
 simp only [mS] at hR
 simp (maxSteps := 2000000) only [go_sem, run_unfold X26.c0.eq_1, run_unfold X26.c1.eq_1, X26.k0, X26.k1, mS, hsl, X6_call]
 exact hR
end Go.Abs
/- Walks of chapter 40: rows are collected by merging. -/
set_option linter.unusedSimpArgs false
set_option linter.unusedVariables false
set_option maxRecDepth 100000
set_option maxHeartbeats 4000000
namespace Go.Abs
open Go
attribute [local go_sem_proc] Nat.reduceLT Nat.reduceEqDiff Nat.reduceLeDiff Nat.reduceAdd Nat.reduceSub Nat.reduceMul Int.reduceLT Int.reduceLE Int.reduceEq Int.reduceNeg
attribute [local go_sem_proc ↓] reduceIte
abbrev onO (i j : Int) : AObj := .cells false [.int .i64 i, .int .i64 j]
abbrev cEnv2 (of : AVal) (n : Int) (f : SlF) (a : Rows) (i : Nat) (it : AVal) : Env := mkE 50 [(1, of), (2, .int .i64 n), (6, .ptr 4 1 0), (7, .ptr 5 1 0), (8, .ptr 6 1 0), (10, .ptr 8 1 0), (11, .ptr 9 1 0), (13, rowsA f a), (14, .int .i64 a.length), (15, .int .i64 i), (21, it)]
abbrev PS2 (gb : SlF) (bb : Rows) (i0 j0 : Int) (m : Nat) (e : Env) (fx : SlF) (x : List Val) (D : List (List Val)) (fd : Bool) (st : LSt) : Sto := [onO i0 j0, .cells false [rowsA gb bb], onO i0 j0, .cells false [.int .i64 (m : Int)], .cells false [.nils], .cells false [.int .i64 0], .cells false [.ref 7 D.length 0 D.length 1], outO D, .cells false [rowA fx x], .cells false [.bool fd], vO (colN x i0), .loop [22] X24.y0 e st]
theorem collect_yield2 {gb : SlF} {bb : Rows} {i0 j0 : Int} {m : Nat} {of it : AVal} {n : Int} {f fx fy : SlF} {a : Rows} {i : Nat} {x y : List Val} {D : List (List Val)} {fd : Bool} (hx : 0 < x.length) (hxl : x.length ≤ 1000000) (hy : y.length ≤ 1000000) (hD : D.length < 4096) (hof : of.under 12 = true) (hit : it.under 11 = true) :
  Yields 11 (rowA fy y) (PS2 gb bb i0 j0 m (cEnv2 of n f a i it) fx x D fd .ready) true (PS2 gb bb i0 j0 m (cEnv2 of n f a i it) fx x (D ++ [x ++ y]) true .ready) := by
 intro R hR
 rw [cw_yield no_yield]
 have hD' : ¬ ((D.length : Nat) : Int) = 4096 := by omega
 have hap : D.map (fun r => rowA .lst r) ++ [rowA .lst (x ++ y)] = (D ++ [x ++ y]).map (fun r => rowA .lst r) := by simp
 simp (maxSteps := 2000000) only [go_sem, putAll_one, List.length_cons, List.length_nil, true_and]
 rw [run_unfold X24.y0.eq_1]
 simp (maxSteps := 2000000) only [go_sem, hD', X44_call hx hxl hy]
 rw [appendV_push (nl := true) (nl' := false) rfl rfl (by simp) (by rw [sv_lst]; rfl) (by simp only [maxBytes]; omega)]
 simp (maxSteps := 2000000) only [go_sem]
 rw [v_names_map (fun _ => sv_pure), Bool.true_and]
 refine ⟨mkE_names fun q hq => ?_, ?_⟩
 ·simp only [List.mem_cons, List.not_mem_nil, or_false] at hq
  rcases hq with rfl | rfl | rfl | rfl | rfl | rfl | rfl | rfl | rfl | rfl | rfl
  all_goals first | exact hof | exact AVal.names_le hit (by omega) | exact sv_pure | rfl
 ·simp only [PS2, outO, ← hap, List.length_append, List.length_cons, List.length_nil] at hR
  exact hR

theorem collect_its2 {gb : SlF} {bb : Rows} {i0 j0 : Int} {m : Nat} {of it : AVal} {n : Int} {f fx : SlF} {a : Rows} {i : Nat} {x : List Val} (hx : 0 < x.length) (hxl : x.length ≤ 1000000) (hof : of.under 12 = true) (hit : it.under 11 = true) : ∀ (ys : Rows) (D : List (List Val)) (fd : Bool), (∀ p ∈ ys, p.2.length ≤ 1000000) → D.length + ys.length ≤ 4096 →
  Its (fun τ => ∃ D fd, τ = PS2 gb bb i0 j0 m (cEnv2 of n f a i it) fx x D fd .ready) 11 (ys.map fun p => rowA p.1 p.2) (PS2 gb bb i0 j0 m (cEnv2 of n f a i it) fx x D fd .ready) (PS2 gb bb i0 j0 m (cEnv2 of n f a i it) fx x (D ++ ys.map fun p => x ++ p.2) (fd || !ys.isEmpty) .ready)
 | [], D, fd, _, _ => by
  simp only [List.map_nil, List.append_nil, List.isEmpty_nil, Bool.not_true, Bool.or_false]
  exact .nil ⟨D, fd, rfl⟩
 | p :: ys, D, fd, hy, hD => by
  simp only [List.length_cons] at hD
  have h1 := collect_yield2 (gb := gb) (bb := bb) (i0 := i0) (j0 := j0) (m := m) (of := of) (it := it) (n := n) (f := f) (fx := fx) (fy := p.1) (a := a) (i := i) (x := x) (y := p.2) (D := D) (fd := fd) hx hxl (hy p (by simp)) (by omega) hof hit
  have h2 := collect_its2 (gb := gb) (bb := bb) (i0 := i0) (j0 := j0) (m := m) (of := of) (it := it) (n := n) (f := f) (fx := fx) (a := a) (i := i) hx hxl hof hit ys (D ++ [x ++ p.2]) true (fun q hq => hy q (by simp [hq])) (by simp only [List.length_append, List.length_cons, List.length_nil]; omega)
  simp only [List.map_cons, List.isEmpty_cons, Bool.not_false, Bool.or_true]
  rw [List.append_assoc, List.singleton_append, Bool.true_or] at h2
  exact .more ⟨D, fd, rfl⟩ h1 h2

theorem collect_good2 {gb : SlF} {bb : Rows} {i0 j0 : Int} {m : Nat} {of it : AVal} {n : Int} {f fx : SlF} {a : Rows} {i : Nat} {x : List Val} {D : List (List Val)} {fd : Bool} (hof : of.under 12 = true) (hit : it.under 11 = true) :
  (PS2 gb bb i0 j0 m (cEnv2 of n f a i it) fx x D fd .ready).length = 12 ∧ (PS2 gb bb i0 j0 m (cEnv2 of n f a i it) fx x D fd .ready).all (AObj.under 12) = true := by
 refine ⟨rfl, ?_⟩
 have h1 : (AVal.unders 12 (cEnv2 of n f a i it)) = true := mkE_names fun q hq => by
  simp only [List.mem_cons, List.not_mem_nil, or_false] at hq
  rcases hq with rfl | rfl | rfl | rfl | rfl | rfl | rfl | rfl | rfl | rfl | rfl
  all_goals first | exact hof | exact AVal.names_le hit (by omega) | exact sv_pure | rfl
 simp only [PS2, List.all_cons, List.all_nil, outO_under, AObj.under, h1, Bool.and_true, Bool.true_and]
 simp (maxSteps := 2000000) only [go_sem]
 exact v_names_map (fun _ => sv_pure) _

abbrev cE2 (of : AVal) (n : Int) (f : SlF) (a : Rows) (i : Nat) : Env := mkE 50 [(1, of), (2, .int .i64 n), (6, .ptr 4 1 0), (7, .ptr 5 1 0), (8, .ptr 6 1 0), (13, rowsA f a), (14, .int .i64 a.length), (15, .int .i64 i)]
abbrev cS2 (gb : SlF) (bb : Rows) (i0 j0 : Int) (m : Nat) (D : List (List Val)) : Sto := [onO i0 j0, .cells false [rowsA gb bb], onO i0 j0, .cells false [.int .i64 (m : Int)], .cells false [.nils], .cells false [.int .i64 0], .cells false [.ref 7 D.length 0 D.length 1], outO D]
structure MInv (a b : Rows) (i0 j0 : Int) (m k : Nat) : Prop where
 le : m ≤ b.length
 lt : ∀ q ∈ b.take m, ∀ p ∈ a.drop k, cmpV (colN q.2 j0) (colN p.2 i0) < 0
def MPart (a b : Rows) (i0 j0 : Int) : Prop := ∀ k (hk : k < a.length) m, MInv a b i0 j0 m k → MInv a b i0 j0 (skipN b j0 (colN a[k].2 i0) m) (k + 1) ∧ partM b j0 (colN a[k].2 i0) m = b.filter (partP a[k].2 i0 j0)

theorem collect_loop2 {f : SlF} {gb : SlF} {a bb : Rows} {i0 j0 : Int} {Q : Post3} (hg : gb ≠ .emp) (h : JoinOk a bb i0 j0) (hM : MPart a bb i0 j0) {D1 : List (List Val)} (h4 : D1.length ≤ 4096)
  (fin : ∀ m, Run T Q (.inLoop X24.b0 :: X24.k0) (cE2 mC (-1) f a a.length) (cS2 gb bb i0 j0 m D1)) : ∀ i, i ≤ a.length → ∀ D m, MInv a bb i0 j0 m i → D ++ joinL (a.drop i) bb i0 j0 (-1) = D1 →
   Run T Q (.inLoop X24.b0 :: X24.k0) (cE2 mC (-1) f a i) (cS2 gb bb i0 j0 m D) := by
 have ha := h.fa
 have ha1 := ha.1
 refine up_ind (fun D m hm hD => ?_) fun i hi ih D m hm hD => ?_
 ·rw [List.drop_length, joinL, List.flatMap_nil, List.append_nil] at hD
  rw [hD]; exact fin m
 ·rw [List.drop_eq_getElem_cons hi, joinL, List.flatMap_cons, ← List.append_assoc] at hD
  obtain ⟨hm', hpart⟩ := hM i hi m hm
  have ih' := ih _ _ hm' hD
  have hmem := List.getElem_mem hi
  have hlen : D.length + (jrow (fun x => bb.filter (partP x i0 j0)) (-1) a[i].2).length ≤ 4096 := by
   have := congrArg List.length hD
   simp only [List.length_append] at this; omega
  have hx1 : 0 < a[i].2.length := by have := h.ca _ hmem; omega
  have hx2 := h.la _ hmem
  rw [run_round, run_unfold X24.b0.eq_1]
  simp (maxSteps := 2000000) only [go_sem, hi]
  refine merge1_call hg h.fb h.cb (h.ca _ hmem) hm.le ?_
  rw [hpart]
  simp (maxSteps := 2000000) only [go_sem]
  unfold RangeC
  generalize skipN bb j0 (colN a[i].2 i0) m = m1 at *
  have hof12 : mC.under 12 = true := rfl
  have hit : (AVal.clo (.func i_X5) [] [.fptr [rowsA (slF gb bb) (bb.filter (partP a[i].2 i0 j0))]]).under 11 = true := by simp (maxSteps := 2000000) only [go_sem]
  have hjr : (jrow (fun x => bb.filter (partP x i0 j0)) (-1) a[i].2) = (bb.filter (partP a[i].2 i0 j0)).map fun p => a[i].2 ++ p.2 := jrow_neg
  rw [hjr] at ih' hlen
  rw [List.length_map] at hlen
  have hys : ∀ q ∈ bb.filter (partP a[i].2 i0 j0), q.2.length ≤ 1000000 := fun q hq => h.lb q (List.mem_filter.1 hq).1
  refine values_iter (o := 11) (L := 12) (G := fun τ => ∃ D fd, τ = PS2 gb bb i0 j0 m1 (cEnv2 mC (-1) f a i (.clo (.func i_X5) [] [.fptr [rowsA (slF gb bb) (bb.filter (partP a[i].2 i0 j0))]])) a[i].1 a[i].2 D fd .ready) ?_ (by decide) (h.fb.filter _) (collect_its2 hx1 hx2 hof12 hit (bb.filter (partP a[i].2 i0 j0)) D false hys hlen) ?_
  ·rintro τ ⟨D', fd', rfl⟩
   exact collect_good2 hof12 hit
  unfold RangeK
  have hn0 : ¬ (0 : Int) ≤ -1 := by decide
  have w1 := wrap_succ (show i < 9223372036854775807 by omega)
  simp only [cS2] at ih'
  cases he : (bb.filter (partP a[i].2 i0 j0)).isEmpty
  ·simp (maxSteps := 2000000) only [go_sem, run_unfold X24.c0.eq_1, run_unfold X24.c1.eq_1, run_unfold X24.c2.eq_1, run_unfold X24.c3.eq_1, X24.k0, he, w1]
   exact ⟨v_names_map (fun _ => sv_pure) _, ih'⟩
  ·simp (maxSteps := 2000000) only [go_sem, run_unfold X24.c0.eq_1, run_unfold X24.c1.eq_1, run_unfold X24.c2.eq_1, run_unfold X24.c3.eq_1, X24.k0, he, hn0, w1]
   exact ⟨v_names_map (fun _ => sv_pure) _, ih'⟩
theorem inner_out2 {D : List (List Val)} {b0 b1 b2 b3 c1 c2 : AObj} : innerV (.ptr 4 1 0) [b0, b1, b2, b3, .cells false [.ref 7 D.length 0 D.length 1], c1, c2, outO D] = some [b0, b1, b2, b3, .cells false [rowsA (flO D) (lstR D)], c1, c2, .dead] := by
 have hd := deep_out (n := 62) (o := 7) (σ := [b0, b1, b2, b3, .cells false [.ref 7 D.length 0 D.length 1], c1, c2, outO D]) (D := D) rfl
 unfold innerV
 simp only [List.getElem?_cons_zero, List.getElem?_cons_succ, List.length_cons, List.length_nil, if_true, deepL, snapDepth, hd]
 rfl
theorem collect_spec2 {f : SlF} {gb : SlF} {a bb : Rows} {i0 j0 : Int} (hg : gb ≠ .emp) (h : JoinOk a bb i0 j0) (hM : MPart a bb i0 j0) (h4 : (joinL a bb i0 j0 (-1)).length ≤ 4096) {R : Post}
  (hR : ∀ σ, R (.tup [rowsA (flO (joinL a bb i0 j0 (-1))) (lstR (joinL a bb i0 j0 (-1))), .int .i64 0]) σ) : Cw T false i_X24 [rowsA f a, mC, .int .i64 (-1)] [] (mS (onO i0 j0) gb bb i0 j0 0 []) R := by
 rw [cw_enter T_X24 (by simp), run_unfold X24.main.eq_1]
 have hl := fun Q fin => collect_loop2 (f := f) (Q := Q) hg h hM (D1 := joinL a bb i0 j0 (-1)) h4 fin 0 (by omega) [] 0 ⟨by omega, fun q hq => by simp at hq⟩ (by simp)
 simp (maxSteps := 2000000) only [go_sem, mS]
 refine hl _ fun m => ?_
 rw [run_round, run_unfold X24.b0.eq_1]
 simp (maxSteps := 2000000) only [go_sem, run_unfold X24.c0.eq_1, run_unfold X24.c1.eq_1, run_unfold X24.c2.eq_1, run_unfold X24.c3.eq_1, X24.k0, Int.lt_irrefl, inner_out2]
 exact hR _
end Go.Abs
/- Walks of chapter 40: Merge; the order of sorted rows. -/
set_option linter.unusedSimpArgs false
set_option linter.unusedVariables false
set_option maxRecDepth 100000
set_option maxHeartbeats 4000000
namespace Go.Abs
open Go
attribute [local go_sem_proc] Nat.reduceLT Nat.reduceEqDiff Nat.reduceLeDiff Nat.reduceAdd Nat.reduceSub Nat.reduceMul Int.reduceLT Int.reduceLE Int.reduceEq Int.reduceNeg
attribute [local go_sem_proc ↓] reduceIte

theorem cmpV_lt_le {a b c : Val} (h1 : cmpV a b < 0) (h2 : cmpV b c ≤ 0) : cmpV a c < 0 := by
 have h := cmpV_trans (show cmpV a b ≤ 0 by omega) h2
 rcases Int.lt_or_eq_of_le h.1 with h3 | h3
 ·exact h3
 ·have := (h.2 h3).1; omega
theorem srt_le {b : Rows} {j : Int} (h : srt b j = true) : ∀ {p q : Nat}, p ≤ q → q < b.length → cmpV (colAt b j p) (colAt b j q) ≤ 0 := by
 intro p q hpq
 obtain ⟨d, rfl⟩ := Nat.exists_eq_add_of_le hpq
 clear hpq
 induction d with
 | zero => intro _; rw [Nat.add_zero, cmpV_self]; omega
 | succ d ih =>
  intro hq
  have h1 := ih (by omega)
  have h2 := List.all_eq_true.1 h (p + d) (by rw [List.mem_range]; omega)
  rw [decide_eq_true_eq, Nat.zero_add] at h2
  exact (cmpV_trans h1 h2).1
theorem mem_at {b : Rows} {j : Int} {q : SlF × List Val} {m : Nat} (h : q ∈ b.take m) : ∃ k, k < m ∧ k < b.length ∧ b[k]? = some q := by
 obtain ⟨k, hk, e⟩ := List.mem_iff_getElem.1 h
 rw [List.length_take] at hk
 rw [List.getElem_take] at e
 exact ⟨k, by omega, by omega, by rw [List.getElem?_eq_getElem (by omega), e]⟩
theorem colAt_some {b : Rows} {j : Int} {q : SlF × List Val} {k : Nat} (h : b[k]? = some q) : colAt b j k = colN q.2 j := by
 unfold colAt; rw [List.getD_eq_getElem?_getD, h]; rfl
theorem takeWhile_filter {α : Type} {p : α → Bool} : ∀ {l : List α}, (∀ k, ∀ x ∈ l.take k, ∀ y, l[k]? = some y → p x = false → p y = false) → l.takeWhile p = l.filter p
 | [], _ => rfl
 | x :: l, h => by
  rw [List.takeWhile_cons, List.filter_cons]
  cases hx : p x
  ·simp only [Bool.false_eq_true, if_false]
   symm
   rw [List.filter_eq_nil_iff]
   intro y hy
   obtain ⟨k, hk, e⟩ := List.mem_iff_getElem.1 hy
   have := h (k + 1) x (by simp) y (by rw [List.getElem?_cons_succ, List.getElem?_eq_getElem hk, e]) hx
   simp [this]
  ·simp only [if_true]
   congr 1
   exact takeWhile_filter fun k z hz y hy => h (k + 1) z (by rw [List.take_succ_cons]; exact List.mem_cons_of_mem _ hz) y (by rw [List.getElem?_cons_succ]; exact hy)
theorem drop_takeWhile {α : Type} {p : α → Bool} : ∀ {l : List α} {x : α} {r : List α}, l.drop (l.takeWhile p).length = x :: r → p x = false
 | [], x, r, h => by simp at h
 | y :: l, x, r, h => by
  rw [List.takeWhile_cons] at h
  cases hy : p y
  ·rw [hy] at h
   simp only [Bool.false_eq_true, if_false, List.length_nil, List.drop_zero] at h
   injection h with h1 h2
   rw [← h1]; exact hy
  ·rw [hy] at h
   simp only [if_true, List.length_cons, List.drop_succ_cons] at h
   exact drop_takeWhile h
theorem take_takeWhile {α : Type} {p : α → Bool} : ∀ (l : List α), l.take (l.takeWhile p).length = l.takeWhile p
 | [] => rfl
 | y :: l => by
  rw [List.takeWhile_cons]
  cases hy : p y
  ·simp
  ·simp only [if_true, List.length_cons, List.take_succ_cons, take_takeWhile l]

theorem mpart {a b : Rows} {i j : Int} (ha : srt a i = true) (hb : srt b j = true) : MPart a b i j := by
 intro k hk m hm
 generalize hv : colN a[k].2 i = v
 have hrest : ∀ p ∈ a.drop (k + 1), cmpV v (colN p.2 i) ≤ 0 := by
  intro p hp
  obtain ⟨t, ht, e⟩ := List.mem_iff_getElem.1 hp
  rw [List.length_drop] at ht
  rw [List.getElem_drop] at e
  have h1 := srt_le ha (p := k) (q := k + 1 + t) (by omega) (by omega)
  rw [colAt_get hk, hv, colAt_get (by omega), e] at h1
  exact h1
 have hsk := skip_le (j := j) (v := v) hm.le
 have hless : ∀ q ∈ b.take (skipN b j v m), cmpV (colN q.2 j) v < 0 := by
  intro q hq
  have e : b.take (skipN b j v m) = b.take m ++ (b.drop m).takeWhile (lessP j v) := by
   rw [skipN, List.take_add, take_takeWhile]
  rw [e] at hq
  rcases List.mem_append.1 hq with hq | hq
  ·have := hm.lt q hq _ (by rw [List.drop_eq_getElem_cons hk]; exact List.mem_cons_self)
   rwa [hv] at this
  ·have := List.all_eq_true.1 (List.all_takeWhile (l := b.drop m) (p := lessP j v)) q hq
   exact of_decide_eq_true this
 refine ⟨⟨hsk.2, fun q hq p hp => cmpV_lt_le (hless q hq) (hrest p hp)⟩, ?_⟩
 have hge : ∀ t, skipN b j v m ≤ t → t < b.length → cmpV v (colAt b j t) ≤ 0 := by
  intro t h1 h2
  have h3 : cmpV v (colAt b j (skipN b j v m)) ≤ 0 := by
   have hlt : skipN b j v m < b.length := by omega
   have hd := List.drop_eq_getElem_cons hlt
   have e : b.drop (skipN b j v m) = (b.drop m).drop ((b.drop m).takeWhile (lessP j v)).length := by rw [List.drop_drop, skipN]
   rw [e] at hd
   have := drop_takeWhile hd
   have := of_decide_eq_false this
   rw [colAt_get hlt]
   have an := cmpV_anti v (colN b[skipN b j v m].2 j)
   omega
  exact (cmpV_trans h3 (srt_le hb h1 h2)).1
 have hpp : partP a[k].2 i j = sameP j v := by
  funext q
  rw [partP, sameP, hv]
  congr 1
  by_cases h : v = colN q.2 j
  ·simp [h]
  ·have : ¬ colN q.2 j = v := fun e => h e.symm
   simp [h, this]
 have e1 : partM b j v m = (b.drop (skipN b j v m)).takeWhile (sameP j v) := by
  rw [partM, sameN, List.take_add, List.drop_append_of_le_length (by rw [List.length_take]; omega), take_takeWhile]
  rw [List.drop_eq_nil_of_le (by rw [List.length_take]; omega)]
  rfl
 rw [e1, hpp]
 have e2 : b.filter (sameP j v) = (b.drop (skipN b j v m)).filter (sameP j v) := by
  conv => lhs; rw [← List.take_append_drop (skipN b j v m) b]
  rw [List.filter_append]
  have : (b.take (skipN b j v m)).filter (sameP j v) = [] := by
   rw [List.filter_eq_nil_iff]
   intro q hq
   have := hless q hq
   have hne : ¬ colN q.2 j = v := fun e => by rw [e, cmpV_self] at this; omega
   simp [sameP, hne]
  rw [this, List.nil_append]
 rw [e2]
 refine takeWhile_filter fun t x hx y hy hp => ?_
 obtain ⟨s, hs1, hs2, hs3⟩ := mem_at (j := j) hx
 rw [List.length_drop] at hs2
 have hx' : colN x.2 j = colAt b j (skipN b j v m + s) := by rw [colAt_some (q := x) (by rw [← List.getElem?_drop]; exact hs3)]
 have hty : skipN b j v m + t < b.length := by
  have := (List.getElem?_eq_some_iff.1 hy).1
  rw [List.length_drop] at this; omega
 have hy' : colN y.2 j = colAt b j (skipN b j v m + t) := by rw [colAt_some (q := y) (by rw [← List.getElem?_drop]; exact hy)]
 by_cases h0 : v.k = 0
 ·simp [sameP, h0]
 ·have hxv : ¬ colN x.2 j = v := by
   intro e
   simp [sameP, h0, e] at hp
  have h1 := hge (skipN b j v m + s) (by omega) (by omega)
  have h2 := srt_le hb (p := skipN b j v m + s) (q := skipN b j v m + t) (by omega) hty
  rw [← hx'] at h1 h2
  rw [← hy'] at h2
  have h3 : cmpV v (colN y.2 j) ≠ 0 := by
   intro e
   have h4 := (cmpV_trans h1 h2).2 e
   exact hxv (cmpV_zero.1 h4.1).symm
  have hne : ¬ colN y.2 j = v := fun e => h3 (by rw [e, cmpV_self])
  simp [sameP, hne]

theorem X35_spec {f g : SlF} {a b : Rows} {i j : Int} (hg : g ≠ .emp) (h : JoinOk a b i j) (h4 : (joinL a b i j (-1)).length ≤ 4096) {lv : List Nat} {σ : Sto} {R : Post} : Cw T true i_X35 [rowsA f a, rowsA g b, onA i j] lv σ R ↔ R (if (srt a i && srt b j) = true then .tup [rowsA (flO (joinL a b i j (-1))) (lstR (joinL a b i j (-1))), .int .i64 0] else .tup [.nils, .int .i64 1]) σ := by
 refine cw_intro T_X35 (by simp only [go_sem]) (by simp) ?_; rw [run_unfold X35.main.eq_1]
 have c1 := fun {Q k os d e σ} => @X1_call f a i h.fa h.ca Q k os d e σ
 have c2 := fun {Q k os d e σ} => @X1_call g b j h.fb h.cb Q k os d e σ
 cases ha : srt a i
 ·simp (maxSteps := 2000000) only [go_sem, X54_call h.fa h.fb, fit_all h.hi h.ca, fit_all h.hj h.cb, Bool.true_and, Bool.false_and, X18_call, c1, ha]
  done
 ·cases hb : srt b j
  ·simp (maxSteps := 2000000) only [go_sem, X54_call h.fa h.fb, fit_all h.hi h.ca, fit_all h.hj h.cb, Bool.true_and, Bool.and_false, X18_call, c1, c2, ha, hb]
   done
  ·have hcol := fun R hR => collect_spec2 (f := f) (R := R) hg h (mpart ha hb) h4 hR
   simp (maxSteps := 2000000) only [go_sem, X54_call h.fa h.fb, fit_all h.hi h.ca, fit_all h.hj h.cb, Bool.true_and, Bool.and_true, X18_call, c1, c2, ha, hb]
   refine merge_call.2 ?_
   simp (maxSteps := 2000000) only [go_sem]
   refine hcol _ fun σ => ?_
   simp (maxSteps := 2000000) only [go_sem]
@[go_sem] theorem X35_call {f g : SlF} {a b : Rows} {i j : Int} (hg : g ≠ .emp) (h : JoinOk a b i j) (h4 : (joinL a b i j (-1)).length ≤ 4096) {Q : Post3} {k : List Item} {os : List AOper} {d : Option Nat} {e : Env} {σ : Sto} : CallK T Q k os d e σ true i_X35 [rowsA f a, rowsA g b, onA i j] ↔ Run T Q (.ops os :: k) (put e d (if (srt a i && srt b j) = true then .tup [rowsA (flO (joinL a b i j (-1))) (lstR (joinL a b i j (-1))), .int .i64 0] else .tup [.nils, .int .i64 1])) σ := X35_spec hg h h4

theorem X39_spec {f g : SlF} {a b : Rows} {i j : Int} (hg : g ≠ .emp) (h : JoinOk a b i j) (h4 : (joinL a b i j (-1)).length ≤ 4096) {lv : List Nat} {σ : Sto} {R : Post} : Cw T true i_X39 [rowsA f a, rowsA g b, onA i j] lv σ R ↔ R (if (srt a i && srt b j) = true then .agg [rowsA (flO (joinL a b i j (-1))) (lstR (joinL a b i j (-1))), .int .i64 0] else .agg [.nils, .int .i64 1]) σ := by
 refine cw_intro T_X39 (by simp only [go_sem]) (by simp) ?_; rw [run_unfold X39.main.eq_1]
 cases hs : (srt a i && srt b j)
 ·simp (maxSteps := 2000000) only [go_sem, X35_call hg h h4, hs]
  done
 ·simp (maxSteps := 2000000) only [go_sem, X35_call hg h h4, hs]
  done
@[go_sem] theorem X39_call {f g : SlF} {a b : Rows} {i j : Int} (hg : g ≠ .emp) (h : JoinOk a b i j) (h4 : (joinL a b i j (-1)).length ≤ 4096) {Q : Post3} {k : List Item} {os : List AOper} {d : Option Nat} {e : Env} {σ : Sto} : CallK T Q k os d e σ true i_X39 [rowsA f a, rowsA g b, onA i j] ↔ Run T Q (.ops os :: k) (put e d (if (srt a i && srt b j) = true then .agg [rowsA (flO (joinL a b i j (-1))) (lstR (joinL a b i j (-1))), .int .i64 0] else .agg [.nils, .int .i64 1])) σ := X39_spec hg h h4

end Go.Abs
/- Walks of chapter 40: JoinEquivalent. -/
set_option linter.unusedSimpArgs false
set_option linter.unusedVariables false
set_option maxRecDepth 100000
set_option maxHeartbeats 8000000
namespace Go.Abs
open Go
attribute [local go_sem_proc] Nat.reduceLT Nat.reduceEqDiff Nat.reduceLeDiff Nat.reduceAdd Nat.reduceSub Nat.reduceMul Int.reduceLT Int.reduceLE Int.reduceEq Int.reduceNeg
attribute [local go_sem_proc ↓] reduceIte

abbrev SrtP (j : Int) (D : Rows) : Prop := D.Pairwise fun p q => cmpV (colN p.2 j) (colN q.2 j) ≤ 0
theorem srt_of {D : Rows} {j : Int} (h : SrtP j D) : srt D j = true := by
 refine List.all_eq_true.2 fun t ht => decide_eq_true ?_
 rw [List.mem_range] at ht
 rw [Nat.zero_add, colAt_get (by omega), colAt_get (by omega)]
 exact List.pairwise_iff_getElem.1 h t (t + 1) (by omega) (by omega) (by omega)
theorem atN_gt {D : Rows} {v : Val} {j : Int} : ∀ n t, atN D v j n ≤ t → t < n → cmpV v (colAt D j t) < 0
 | 0, t, _, h => by omega
 | n + 1, t, h1, h2 => by
  unfold atN at h1
  split at h1
  ·rename_i h
   by_cases e : t = n
   ·subst e; exact h
   ·exact atN_gt n t h1 (by omega)
  ·omega
theorem atN_ge {D : Rows} {v : Val} {j : Int} : ∀ n, 0 < atN D v j n → ¬ cmpV v (colAt D j (atN D v j n - 1)) < 0
 | 0, h => by simp [atN] at h
 | n + 1, h => by
  unfold atN at h ⊢
  split
  ·rename_i hc
   rw [if_pos hc] at h
   exact atN_ge n h
  ·rename_i hc
   rw [Nat.add_sub_cancel]; exact hc
theorem insR_srt {D : Rows} {p : SlF × List Val} {j : Int} (h : SrtP j D) : SrtP j (insR D p j) := by
 have hK := atN_le (D := D) (v := colN p.2 j) (j := j) D.length
 have h1 := atN_gt (D := D) (v := colN p.2 j) (j := j) D.length
 have h2 := atN_ge (D := D) (v := colN p.2 j) (j := j) D.length
 unfold insR SrtP
 generalize atN D (colN p.2 j) j D.length = K at *
 have hg := List.pairwise_iff_getElem.1 h
 have hX : (D.take K).Pairwise fun p q => cmpV (colN p.2 j) (colN q.2 j) ≤ 0 := h.sublist (List.take_sublist _ _)
 have hY : (D.drop K).Pairwise fun p q => cmpV (colN p.2 j) (colN q.2 j) ≤ 0 := h.sublist (List.drop_sublist _ _)
 have hXY : ∀ x ∈ D.take K, ∀ y ∈ D.drop K, cmpV (colN x.2 j) (colN y.2 j) ≤ 0 := by
  rw [SrtP, ← List.take_append_drop K D, List.pairwise_append] at h
  exact h.2.2
 have hp2 : ∀ y ∈ D.drop K, cmpV (colN p.2 j) (colN y.2 j) ≤ 0 := by
  intro y hy
  obtain ⟨t, ht, e⟩ := List.mem_iff_getElem.1 hy
  rw [List.length_drop] at ht
  rw [List.getElem_drop] at e
  have := h1 (K + t) (by omega) (by omega)
  rw [colAt_get (by omega), e] at this
  omega
 have hp1 : ∀ x ∈ D.take K, cmpV (colN x.2 j) (colN p.2 j) ≤ 0 := by
  intro x hx
  obtain ⟨s, hs1, hs2, hs3⟩ := mem_at (j := j) hx
  have hk1 : ¬ cmpV (colN p.2 j) (colAt D j (K - 1)) < 0 := h2 (by omega)
  rw [colAt_get (by omega)] at hk1
  have an := cmpV_anti (colN p.2 j) (colN (D[K - 1]'(by omega)).2 j)
  have h3 : cmpV (colN (D[K - 1]'(by omega)).2 j) (colN p.2 j) ≤ 0 := by omega
  have hxs : D[s]'hs2 = x := by rw [List.getElem?_eq_getElem hs2] at hs3; injection hs3
  by_cases e : s = K - 1
  ·subst e; rw [← hxs]; exact h3
  ·have := hg s (K - 1) hs2 (by omega) (by omega)
   rw [hxs] at this
   exact (cmpV_trans this h3).1
 rw [List.pairwise_append, List.pairwise_cons]
 refine ⟨hX, ⟨hp2, hY⟩, fun x hx y hy => ?_⟩
 rcases List.mem_cons.1 hy with rfl | hy
 ·exact hp1 x hx
 ·exact hXY x hx y hy
theorem srtL_srt {j : Int} : ∀ {l D : Rows}, SrtP j D → SrtP j (srtL l j D)
 | [], D, h => h
 | p :: l, D, h => srtL_srt (l := l) (insR_srt (p := p) h)
theorem insR_len {D : Rows} {p : SlF × List Val} {j : Int} : (insR D p j).length = D.length + 1 := by
 have := atN_le (D := D) (v := colN p.2 j) (j := j) D.length
 simp only [insR, List.length_append, List.length_cons, List.length_take, List.length_drop]; omega
theorem srtL_len {j : Int} : ∀ {l D : Rows}, (srtL l j D).length = l.length + D.length
 | [], D => by simp [srtL]
 | p :: l, D => by
  have := srtL_len (j := j) (l := l) (D := insR D p j)
  rw [insR_len] at this
  simp only [List.length_cons]
  show (srtL l j (insR D p j)).length = _
  omega
theorem srtL_mem {j : Int} : ∀ {l D : Rows} {q : SlF × List Val}, q ∈ srtL l j D → q ∈ l ∨ q ∈ D
 | [], D, q, h => .inr h
 | p :: l, D, q, h => by
  rcases srtL_mem (l := l) (D := insR D p j) h with h | h
  ·exact .inl (List.mem_cons_of_mem _ h)
  ·rcases insR_mem h with rfl | h
   ·exact .inl List.mem_cons_self
   ·exact .inr h
theorem Wide.srtL {a : Rows} {m : Nat} (h : Wide a m) (j : Int) : Wide (srtL a j []) m := by
 have hm : ∀ p ∈ Go.Abs.srtL a j [], p ∈ a := fun p hp => by
  rcases srtL_mem hp with h | h
  ·exact h
  ·simp at h
 exact ⟨by rw [srtL_len]; exact h.n, fun p hp => h.w p (hm p hp), fun p hp => h.s p (hm p hp)⟩

theorem X56_spec {f g : SlF} {a b : Rows} {ea eb : Int} (ha : RowsFit a) (hb : RowsFit b) {lv : List Nat} {σ : Sto} {R : Post} : Cw T true i_X56 [.agg [rowsA f a, .int .i64 ea], .agg [rowsA g b, .int .i64 eb]] lv σ R ↔ R (.bool (decide (ea = eb) && decide (a.map Prod.snd = b.map Prod.snd))) σ := by
 refine cw_intro T_X56 (by simp only [go_sem]) (by simp) ?_; rw [run_unfold X56.main.eq_1]
 by_cases h : ea = eb
 ·simp (maxSteps := 2000000) only [go_sem, X23_call ha hb, h, decide_true, Bool.true_and]
 ·simp (maxSteps := 2000000) only [go_sem, X23_call ha hb, h, decide_false, Bool.false_and]
@[go_sem] theorem X56_call {f g : SlF} {a b : Rows} {ea eb : Int} (ha : RowsFit a) (hb : RowsFit b) {Q : Post3} {k : List Item} {os : List AOper} {d : Option Nat} {e : Env} {σ : Sto} : CallK T Q k os d e σ true i_X56 [.agg [rowsA f a, .int .i64 ea], .agg [rowsA g b, .int .i64 eb]] ↔ Run T Q (.ops os :: k) (put e d (.bool (decide (ea = eb) && decide (a.map Prod.snd = b.map Prod.snd)))) σ := X56_spec ha hb


theorem X7_spec {z : Cas} (h : z.Ok) {lv : List Nat} {σ : Sto} {R : Post} : Cw T true i_X7 [z.v] lv σ R ↔ R (.bool true) σ := by
 refine cw_intro T_X7 (by simp only [go_sem]) (by simp) ?_; rw [run_unfold X7.main.eq_1]
 have h2 := z.two
 have hmade := fun {Q : Post3} {k : List Item} {os : List AOper} {d : Option Nat} {e : Env} {σ : Sto} => X62_call (z := z) h (Q := Q) (k := k) (os := os) (d := d) (e := e) (σ := σ)
 generalize z.A = a at h2 hmade
 generalize z.B = b at h2 hmade
 generalize z.i = i at h2 hmade
 generalize z.j = j at h2 hmade
 have h3 : Two (srtL a i []) (srtL b j []) z.m z.n i j := ⟨h2.ha.srtL i, h2.hb.srtL j, h2.hm, h2.hn, h2.i0, h2.j0, h2.im, h2.jn⟩
 have hs : (srt (srtL a i []) i && srt (srtL b j []) j) = true := by rw [srt_of (srtL_srt List.Pairwise.nil), srt_of (srtL_srt List.Pairwise.nil)]; rfl
 have c1 := fun {Q k os d e σ} => @X65_call .lst a i h2.ok.fa h2.ok.ca Q k os d e σ
 have c2 := fun {Q k os d e σ} => @X65_call .lst b j h2.ok.fb h2.ok.cb Q k os d e σ
 have c3 := fun {Q k os d e σ} => @X37_call .lst a i h2.ok.fa h2.ok.ca Q k os d e σ
 have c4 := fun {Q k os d e σ} => @X37_call .lst b j h2.ok.fb h2.ok.cb Q k os d e σ
 have c5 := fun {Q k os d e σ} => @X39_call .lst .lst a b i j (by simp) h2.ok h2.len4 Q k os d e σ
 have c6 := fun {Q k os d e σ} => @X39_call .lst .lst (srtL a i []) (srtL b j []) i j (by simp) h3.ok h3.len4 Q k os d e σ
 have f1 := h2.fitJ
 have f2 := h3.fitJ
 rw [if_pos hs] at c6
 have s1 := fun {Q k os d e σ} => @X56_call (flO (joinL a b i j (-1))) (flO (joinL a b i j (-1))) (lstR (joinL a b i j (-1))) (lstR (joinL a b i j (-1))) 0 0 f1 f1 Q k os d e σ
 have s2 := fun {Q k os d e σ} => @X56_call (flO (joinL (srtL a i []) (srtL b j []) i j (-1))) (flO (joinL (srtL a i []) (srtL b j []) i j (-1))) (lstR (joinL (srtL a i []) (srtL b j []) i j (-1))) (lstR (joinL (srtL a i []) (srtL b j []) i j (-1))) 0 0 f2 f2 Q k os d e σ
 rw [decide_eq_true rfl, decide_eq_true rfl, Bool.true_and] at s1 s2
 cases ha : srt a i
 ·have c5' := fun {Q k os d e σ} => @c5 Q k os d e σ
  rw [ha, Bool.false_and, if_neg (by decide)] at c5'
  simp (maxSteps := 2000000) only [go_sem, run_unfold X7.c0.eq_1, hmade, c1, c2, c3, c4, c5', c6, s1, s2, ha, X36_call h2.ok h2.len4, X36_call h3.ok h3.len4, X58_call h2.ok h2.len4, X58_call h3.ok h3.len4]
 ·cases hb : srt b j
  ·have c5' := fun {Q k os d e σ} => @c5 Q k os d e σ
   rw [ha, hb, Bool.and_false, if_neg (by decide)] at c5'
   simp (maxSteps := 2000000) only [go_sem, run_unfold X7.c0.eq_1, hmade, c1, c2, c3, c4, c5', c6, s1, s2, ha, hb, X36_call h2.ok h2.len4, X36_call h3.ok h3.len4, X58_call h2.ok h2.len4, X58_call h3.ok h3.len4]
  ·have c5' := fun {Q k os d e σ} => @c5 Q k os d e σ
   rw [ha, hb, Bool.and_true, if_pos rfl] at c5'
   simp (maxSteps := 2000000) only [go_sem, run_unfold X7.c0.eq_1, hmade, c1, c2, c3, c4, c5', c6, s1, s2, ha, hb, X36_call h2.ok h2.len4, X36_call h3.ok h3.len4, X58_call h2.ok h2.len4, X58_call h3.ok h3.len4]
@[go_sem] theorem X7_call {z : Cas} (h : z.Ok) {Q : Post3} {k : List Item} {os : List AOper} {d : Option Nat} {e : Env} {σ : Sto} : CallK T Q k os d e σ true i_X7 [z.v] ↔ Run T Q (.ops os :: k) (put e d (.bool true)) σ := X7_spec h

end Go.Abs
/- Walks of chapter 40: too many rows. -/
set_option linter.unusedSimpArgs false
set_option linter.unusedVariables false
set_option maxRecDepth 100000
set_option maxHeartbeats 4000000
namespace Go.Abs
open Go
attribute [local go_sem_proc] Nat.reduceLT Nat.reduceEqDiff Nat.reduceLeDiff Nat.reduceAdd Nat.reduceSub Nat.reduceMul Int.reduceLT Int.reduceLE Int.reduceEq Int.reduceNeg
attribute [local go_sem_proc ↓] reduceIte
theorem runx_ret {Q : Post3} {k : List Item} {e : Env} {σ : Sto} : RunX T Q .ret k e σ ↔ Q .ret e σ := ⟨fun ⟨_, h⟩ => (resume_ret k).1 h, fun h => ⟨0, (resume_ret k).2 h⟩⟩
def colF (L : List (List Val)) : SlF := if L.length ≤ 4096 then flO L else .nil
def colL (L : List (List Val)) : List (List Val) := if L.length ≤ 4096 then L else []
def colE (L : List (List Val)) : Int := if L.length ≤ 4096 then 0 else 2
abbrev colV (L : List (List Val)) : AVal := .tup [rowsA (colF L) (lstR (colL L)), .int .i64 (colE L)]
theorem col_ok {L : List (List Val)} (h : L.length ≤ 4096) : colV L = .tup [rowsA (flO L) (lstR L), .int .i64 0] := by simp only [colV, colF, colL, colE, if_pos h]
theorem col_big {L : List (List Val)} (h : 4096 < L.length) : colV L = .tup [.nils, .int .i64 2] := by
 have h' : ¬ L.length ≤ 4096 := by omega
 simp only [colV, colF, colL, colE, if_neg h']; rfl
abbrev PB1 (e : Env) (fx : SlF) (x : List Val) (D : List (List Val)) (fd : Bool) (st : LSt) : Sto := [.cells false [.nils], .cells false [.int .i64 2], .cells false [.ref 3 D.length 0 D.length 1], outO D, .cells false [rowA fx x], .cells false [.bool fd], .cells false [rowA fx x], .loop [22] X24.y0 e st]
theorem collect_stop1 {of it : AVal} {n : Int} {f fx fy : SlF} {a : Rows} {i : Nat} {x y : List Val} {D : List (List Val)} {fd : Bool} (hD : D.length = 4096) :
  Yields 7 (rowA fy y) (PS1 (cEnv of n f a i it) fx x D fd .ready) false (PB1 (cEnv of n f a i it) fx x D true (.done .ret)) := by
 intro R hR
 rw [cw_yield no_yield]
 have hD' : ((D.length : Nat) : Int) = 4096 := by omega
 simp (maxSteps := 2000000) only [go_sem, putAll_one, List.length_cons, List.length_nil, true_and]
 rw [run_unfold X24.y0.eq_1]
 simp (maxSteps := 2000000) only [go_sem, hD']
 exact hR

theorem collect_itsB1 {of it : AVal} {n : Int} {f fx : SlF} {a : Rows} {i : Nat} {x : List Val} (hx : 0 < x.length) (hxl : x.length ≤ 1000000) (hof : of.under 8 = true) (hit : it.under 7 = true) : ∀ (ys : Rows) (D : List (List Val)) (fd : Bool), (∀ p ∈ ys, p.2.length ≤ 1000000) → D.length ≤ 4096 → 4096 < D.length + ys.length →
  ∃ D', Its (fun τ => ∃ D fd, τ = PS1 (cEnv of n f a i it) fx x D fd .ready) 7 (ys.map fun p => rowA p.1 p.2) (PS1 (cEnv of n f a i it) fx x D fd .ready) (PB1 (cEnv of n f a i it) fx x D' true (.done .ret))
 | [], D, fd, _, _, h => by simp only [List.length_nil] at h; omega
 | p :: ys, D, fd, hy, hD, h => by
  simp only [List.length_cons] at h
  by_cases h9 : D.length = 4096
  ·exact ⟨D, .stop ⟨D, fd, rfl⟩ (collect_stop1 h9)⟩
  ·have h1 := collect_yield1 (of := of) (it := it) (n := n) (f := f) (fx := fx) (fy := p.1) (a := a) (i := i) (x := x) (y := p.2) (D := D) (fd := fd) hx hxl (hy p (by simp)) (by omega) hof hit
   obtain ⟨D', h2⟩ := collect_itsB1 (of := of) (it := it) (n := n) (f := f) (fx := fx) (a := a) (i := i) hx hxl hof hit ys (D ++ [x ++ p.2]) true (fun q hq => hy q (by simp [hq])) (by simp only [List.length_append, List.length_cons, List.length_nil]; omega) (by simp only [List.length_append, List.length_cons, List.length_nil]; omega)
   exact ⟨D', .more ⟨D, fd, rfl⟩ h1 h2⟩

theorem collect_step1 {g : FuncId} {fs cs : List AVal} {n : Int} {f : SlF} {a : Rows} {part : List Val → Rows} {Q : Post3} (ha : RowsFit a) (hn : n ≤ 1000) (hof : (AVal.clo (.func g) fs cs).under 4 = true) {i : Nat} (hi : i < a.length)
  (hOf : OfC g fs cs (fun x => [.cells false [x]]) a[i].1 a[i].2 (part a[i].2)) (hx1 : 0 < a[i].2.length) (hx2 : a[i].2.length ≤ 1000000) (hp : ∀ q ∈ part a[i].2, q.2.length ≤ 1000000) {D : List (List Val)} (hlen : D.length + (jrow part n a[i].2).length ≤ 4096)
  (ih' : Run T Q (.inLoop X24.b0 :: X24.k0) (cE1 (.clo (.func g) fs cs) n f a (i + 1)) (cS1 (D ++ jrow part n a[i].2))) :
   Run T Q (.inLoop X24.b0 :: X24.k0) (cE1 (.clo (.func g) fs cs) n f a i) (cS1 D) := by
 have ha1 := ha.1
 obtain ⟨gi, fi, ci, hcall, hund, hiter⟩ := hOf [.cells false [.nils], .cells false [.int .i64 0], .cells false [.ref 3 D.length 0 D.length 1], outO D, .cells false [rowA a[i].1 a[i].2], .cells false [.bool false]]
 have hys : (part a[i].2).length ≤ (jrow part n a[i].2).length := by
  unfold jrow
  split
  ·rename_i h; rw [h.1]; simp
  ·simp
 rw [run_round, run_unfold X24.b0.eq_1]
 simp (maxSteps := 2000000) only [go_sem, hi]
 refine hcall _ ?_
 simp (maxSteps := 2000000) only [go_sem]
 unfold RangeC
 have hof8 : (AVal.clo (.func g) fs cs).under 8 = true := AVal.names_le hof (by omega)
 have hit : (AVal.clo (.func gi) fi ci).under 7 = true := hund
 refine hiter (o := 7) (L := 8) (G := fun τ => ∃ D fd, τ = PS1 (cEnv (.clo (.func g) fs cs) n f a i (.clo (.func gi) fi ci)) a[i].1 a[i].2 D fd .ready) ?_ (by decide) (by simp only [List.length_cons, List.length_nil]; omega) (collect_its1 hx1 hx2 hof8 hit (part a[i].2) D false hp (by omega)) ?_
 ·rintro τ ⟨D', fd', rfl⟩
  obtain ⟨k1, k2⟩ := collect_good1 (of := .clo (.func g) fs cs) (it := .clo (.func gi) fi ci) (n := n) (f := f) (fx := a[i].1) (a := a) (i := i) (x := a[i].2) (D := D') (fd := fd') hof8 hit
  refine ⟨k1, k2, fun q ob hq => ?_⟩
  rcases q with _ | q
  ·first | exact hq | simp at hq
  ·simp at hq
 unfold RangeK
 simp (maxSteps := 2000000) only [go_sem]
 have hof4 := hof
 simp only [AVal.under, AVal.names, Bool.and_eq_true] at hof4
 by_cases hys0 : part a[i].2 = []
 ·rw [hys0]
  by_cases hn0 : 0 ≤ n
  ·have hj : jrow part n a[i].2 = [a[i].2 ++ List.replicate n.toNat zV] := by simp [jrow, hys0, hn0]
   rw [hj] at ih' hlen
   simp only [List.length_cons, List.length_nil] at hlen
   have h96 : ¬ ((D.length : Nat) : Int) = 4096 := by omega
   simp (maxSteps := 2000000) only [go_sem, run_unfold X24.c0.eq_1, run_unfold X24.c1.eq_1, run_unfold X24.c2.eq_1, run_unfold X24.c3.eq_1, X24.k0, hn0, h96, mkslF_row hn0 hn, X44_call hx1 hx2 (show (List.replicate n.toNat zV).length ≤ 1000000 by rw [List.length_replicate]; omega), List.append_nil, List.map_nil, List.isEmpty_nil]
   rw [appendV_push (nl := true) (nl' := false) rfl rfl (by simp) (by rw [sv_lst]; rfl) (by simp only [maxBytes]; omega)]
   have hap : D.map (fun r => rowA .lst r) ++ [rowA .lst (a[i].2 ++ List.replicate n.toNat zV)] = (D ++ [a[i].2 ++ List.replicate n.toNat zV]).map (fun r => rowA .lst r) := by simp
   simp (maxSteps := 2000000) only [go_sem, run_unfold X24.c0.eq_1, run_unfold X24.c1.eq_1, run_unfold X24.c2.eq_1, run_unfold X24.c3.eq_1, X24.k0, hof4, wrap_succ (show i < 9223372036854775807 by omega)]
   rw [hap]
   simp only [cS1, List.length_append, List.length_cons, List.length_nil, Nat.zero_add] at ih'
   exact ⟨v_names_map (fun _ => sv_pure) _, ih'⟩
  ·have hj : jrow part n a[i].2 = [] := by simp [jrow, hys0, hn0]
   rw [hj, List.append_nil] at ih'
   simp (maxSteps := 2000000) only [go_sem, run_unfold X24.c0.eq_1, run_unfold X24.c1.eq_1, run_unfold X24.c2.eq_1, run_unfold X24.c3.eq_1, X24.k0, hn0, List.append_nil, List.map_nil, List.isEmpty_nil, hof4, wrap_succ (show i < 9223372036854775807 by omega)]
   exact ⟨v_names_map (fun _ => sv_pure) _, ih'⟩
 ·have hj : jrow part n a[i].2 = (part a[i].2).map fun p => a[i].2 ++ p.2 := by simp [jrow, hys0]
  have he : List.isEmpty (part a[i].2) = false := by simpa using hys0
  rw [hj] at ih'
  simp (maxSteps := 2000000) only [go_sem, run_unfold X24.c0.eq_1, run_unfold X24.c1.eq_1, run_unfold X24.c2.eq_1, run_unfold X24.c3.eq_1, X24.k0, he, hof4, wrap_succ (show i < 9223372036854775807 by omega)]
  exact ⟨v_names_map (fun _ => sv_pure) _, ih'⟩

theorem collect_over1 {g : FuncId} {fs cs : List AVal} {n : Int} {f : SlF} {a : Rows} {part : List Val → Rows} (ha : RowsFit a) (hn : n ≤ 1000) (hof : (AVal.clo (.func g) fs cs).under 4 = true) {i : Nat} (hi : i < a.length)
  (hOf : OfC g fs cs (fun x => [.cells false [x]]) a[i].1 a[i].2 (part a[i].2)) (hx1 : 0 < a[i].2.length) (hx2 : a[i].2.length ≤ 1000000) (hp : ∀ q ∈ part a[i].2, q.2.length ≤ 1000000) {D : List (List Val)} (hD : D.length ≤ 4096) (hlen : 4096 < D.length + (jrow part n a[i].2).length) :
   Run T (Res [.cell 6 false 1, .cell 7 false 1] (.tup [.nils, .int .i64 2])) (.inLoop X24.b0 :: X24.k0) (cE1 (.clo (.func g) fs cs) n f a i) (cS1 D) := by
 have ha1 := ha.1
 obtain ⟨gi, fi, ci, hcall, hund, hiter⟩ := hOf [.cells false [.nils], .cells false [.int .i64 0], .cells false [.ref 3 D.length 0 D.length 1], outO D, .cells false [rowA a[i].1 a[i].2], .cells false [.bool false]]
 rw [run_round, run_unfold X24.b0.eq_1]
 simp (maxSteps := 2000000) only [go_sem, hi]
 refine hcall _ ?_
 simp (maxSteps := 2000000) only [go_sem]
 unfold RangeC
 have hof8 : (AVal.clo (.func g) fs cs).under 8 = true := AVal.names_le hof (by omega)
 have hit : (AVal.clo (.func gi) fi ci).under 7 = true := hund
 have hGood : ∀ τ, (∃ D fd, τ = PS1 (cEnv (.clo (.func g) fs cs) n f a i (.clo (.func gi) fi ci)) a[i].1 a[i].2 D fd .ready) → τ.length = 8 ∧ τ.all (AObj.under 8) = true ∧ ∀ (q : Nat) (ob : AObj), ((fun x => [.cells false [x]]) (rowA a[i].1 a[i].2))[q]? = some ob → τ[6 + q]? = some ob := by
  rintro τ ⟨D', fd', rfl⟩
  obtain ⟨k1, k2⟩ := collect_good1 (of := .clo (.func g) fs cs) (it := .clo (.func gi) fi ci) (n := n) (f := f) (fx := a[i].1) (a := a) (i := i) (x := a[i].2) (D := D') (fd := fd') hof8 hit
  refine ⟨k1, k2, fun q ob hq => ?_⟩
  rcases q with _ | q
  ·first | exact hq | simp at hq
  ·simp at hq
 by_cases hz : part a[i].2 = [] ∧ 0 ≤ n
 ·obtain ⟨hys0, hn0⟩ := hz
  have h9 : D.length = 4096 := by
   have : jrow part n a[i].2 = [a[i].2 ++ List.replicate n.toNat zV] := by simp [jrow, hys0, hn0]
   rw [this] at hlen; simp only [List.length_cons, List.length_nil] at hlen; omega
  have h96 : ((D.length : Nat) : Int) = 4096 := by omega
  refine hiter (o := 7) (L := 8) hGood (by decide) (by simp only [List.length_cons, List.length_nil]; omega) (collect_its1 hx1 hx2 hof8 hit (part a[i].2) D false hp (by rw [hys0]; simp; omega)) ?_
  unfold RangeK
  rw [hys0]
  simp (maxSteps := 2000000) only [go_sem, run_unfold X24.c0.eq_1, run_unfold X24.c1.eq_1, run_unfold X24.c2.eq_1, run_unfold X24.c3.eq_1, X24.k0, hn0, h96, List.append_nil, List.map_nil, List.isEmpty_nil]
  exact snapA_step (n := 63) (v := .tup [.nils, .int .i64 2]) (by simp (maxSteps := 2000000) only [go_sem])
 ·have hy : D.length + (part a[i].2).length > 4096 := by
   have : jrow part n a[i].2 = (part a[i].2).map fun p => a[i].2 ++ p.2 := by
    unfold jrow; rw [if_neg hz]
   rw [this, List.length_map] at hlen; exact hlen
  obtain ⟨D', hits⟩ := collect_itsB1 (of := .clo (.func g) fs cs) (it := .clo (.func gi) fi ci) (n := n) (f := f) (fx := a[i].1) (a := a) (i := i) hx1 hx2 hof8 hit (part a[i].2) D false hp hD hy
  refine hiter (o := 7) (L := 8) hGood (by decide) (by simp only [List.length_cons, List.length_nil]; omega) hits ?_
  unfold RangeK
  simp (maxSteps := 2000000) only [go_sem, run_unfold X24.c0.eq_1, run_unfold X24.c1.eq_1, run_unfold X24.c2.eq_1, run_unfold X24.c3.eq_1, X24.k0, runx_ret]
  exact snapA_step (n := 63) (v := .tup [.nils, .int .i64 2]) (by simp (maxSteps := 2000000) only [go_sem])
theorem collect_run1 {g : FuncId} {fs cs : List AVal} {n : Int} {f : SlF} {a : Rows} {part : List Val → Rows} (ha : RowsFit a) (hn : n ≤ 1000) (hof : (AVal.clo (.func g) fs cs).under 4 = true)
  (hOf : ∀ p ∈ a, OfC g fs cs (fun x => [.cells false [x]]) p.1 p.2 (part p.2)) (hx : ∀ p ∈ a, 0 < p.2.length ∧ p.2.length ≤ 1000000) (hp : ∀ p ∈ a, ∀ q ∈ part p.2, q.2.length ≤ 1000000) {D1 : List (List Val)} : ∀ i, i ≤ a.length → ∀ D, D.length ≤ 4096 → D ++ (a.drop i).flatMap (fun p => jrow part n p.2) = D1 →
   Run T (Res [.cell 6 false 1, .cell 7 false 1] (colV D1)) (.inLoop X24.b0 :: X24.k0) (cE1 (.clo (.func g) fs cs) n f a i) (cS1 D) := by
 refine up_ind (fun D hD e => ?_) fun i hi ih D hD e => ?_
 ·rw [List.drop_length, List.flatMap_nil, List.append_nil] at e
  subst e
  rw [col_ok hD]; exact collect_fin
 ·rw [List.drop_eq_getElem_cons hi, List.flatMap_cons, ← List.append_assoc] at e
  have hm := List.getElem_mem hi
  obtain ⟨hx1, hx2⟩ := hx _ hm
  by_cases hl : D.length + (jrow part n a[i].2).length ≤ 4096
  ·exact collect_step1 ha hn hof hi (hOf _ hm) hx1 hx2 (hp _ hm) hl (ih _ (by rw [List.length_append]; exact hl) e)
  ·have hbig : 4096 < D1.length := by
    rw [← e]; simp only [List.length_append]; omega
   rw [col_big hbig]
   exact collect_over1 ha hn hof hi (hOf _ hm) hx1 hx2 (hp _ hm) hD (by omega)
theorem collect_specB1 {g : FuncId} {fs cs : List AVal} {n : Int} {f : SlF} {a : Rows} {part : List Val → Rows} (ha : RowsFit a) (hn : n ≤ 1000) (hpure : (AVal.clo (.func g) fs cs).pure = true)
  (hOf : ∀ p ∈ a, OfC g fs cs (fun x => [.cells false [x]]) p.1 p.2 (part p.2)) (hx : ∀ p ∈ a, 0 < p.2.length ∧ p.2.length ≤ 1000000) (hp : ∀ p ∈ a, ∀ q ∈ part p.2, q.2.length ≤ 1000000)
  {lv : List Nat} {σ : Sto} {R : Post} : Cw T true i_X24 [rowsA f a, .clo (.func g) fs cs, .int .i64 n] lv σ R ↔ R (colV (a.flatMap fun p => jrow part n p.2)) σ := by
 refine cw_intro T_X24 ?_ (by simp) ?_
 ·simp only [AVal.pures, AVal.namesL, hpure, Bool.and_true]; simp (maxSteps := 2000000) only [go_sem]
 rw [run_unfold X24.main.eq_1]
 have h := collect_run1 (f := f) (n := n) ha hn (AVal.names_imp (by simp) _ hpure) hOf hx hp 0 (by omega) [] (by simp) rfl
 simp only [List.drop_zero, List.nil_append] at h
 simp (maxSteps := 2000000) only [go_sem]
 exact h
abbrev PB0 (e : Env) (fx : SlF) (x : List Val) (D : List (List Val)) (fd : Bool) (st : LSt) : Sto := [.cells false [.nils], .cells false [.int .i64 2], .cells false [.ref 3 D.length 0 D.length 1], outO D, .cells false [rowA fx x], .cells false [.bool fd], .loop [22] X24.y0 e st]
theorem collect_stop0 {of it : AVal} {n : Int} {f fx fy : SlF} {a : Rows} {i : Nat} {x y : List Val} {D : List (List Val)} {fd : Bool} (hD : D.length = 4096) :
  Yields 6 (rowA fy y) (PS0 (cEnv of n f a i it) fx x D fd .ready) false (PB0 (cEnv of n f a i it) fx x D true (.done .ret)) := by
 intro R hR
 rw [cw_yield no_yield]
 have hD' : ((D.length : Nat) : Int) = 4096 := by omega
 simp (maxSteps := 2000000) only [go_sem, putAll_one, List.length_cons, List.length_nil, true_and]
 rw [run_unfold X24.y0.eq_1]
 simp (maxSteps := 2000000) only [go_sem, hD']
 exact hR

theorem collect_itsB0 {of it : AVal} {n : Int} {f fx : SlF} {a : Rows} {i : Nat} {x : List Val} (hx : 0 < x.length) (hxl : x.length ≤ 1000000) (hof : of.under 7 = true) (hit : it.under 6 = true) : ∀ (ys : Rows) (D : List (List Val)) (fd : Bool), (∀ p ∈ ys, p.2.length ≤ 1000000) → D.length ≤ 4096 → 4096 < D.length + ys.length →
  ∃ D', Its (fun τ => ∃ D fd, τ = PS0 (cEnv of n f a i it) fx x D fd .ready) 6 (ys.map fun p => rowA p.1 p.2) (PS0 (cEnv of n f a i it) fx x D fd .ready) (PB0 (cEnv of n f a i it) fx x D' true (.done .ret))
 | [], D, fd, _, _, h => by simp only [List.length_nil] at h; omega
 | p :: ys, D, fd, hy, hD, h => by
  simp only [List.length_cons] at h
  by_cases h9 : D.length = 4096
  ·exact ⟨D, .stop ⟨D, fd, rfl⟩ (collect_stop0 h9)⟩
  ·have h1 := collect_yield0 (of := of) (it := it) (n := n) (f := f) (fx := fx) (fy := p.1) (a := a) (i := i) (x := x) (y := p.2) (D := D) (fd := fd) hx hxl (hy p (by simp)) (by omega) hof hit
   obtain ⟨D', h2⟩ := collect_itsB0 (of := of) (it := it) (n := n) (f := f) (fx := fx) (a := a) (i := i) hx hxl hof hit ys (D ++ [x ++ p.2]) true (fun q hq => hy q (by simp [hq])) (by simp only [List.length_append, List.length_cons, List.length_nil]; omega) (by simp only [List.length_append, List.length_cons, List.length_nil]; omega)
   exact ⟨D', .more ⟨D, fd, rfl⟩ h1 h2⟩

theorem collect_step0 {g : FuncId} {fs cs : List AVal} {n : Int} {f : SlF} {a : Rows} {part : List Val → Rows} {Q : Post3} (ha : RowsFit a) (hn : n ≤ 1000) (hof : (AVal.clo (.func g) fs cs).under 4 = true) {i : Nat} (hi : i < a.length)
  (hOf : OfC g fs cs (fun _ => []) a[i].1 a[i].2 (part a[i].2)) (hx1 : 0 < a[i].2.length) (hx2 : a[i].2.length ≤ 1000000) (hp : ∀ q ∈ part a[i].2, q.2.length ≤ 1000000) {D : List (List Val)} (hlen : D.length + (jrow part n a[i].2).length ≤ 4096)
  (ih' : Run T Q (.inLoop X24.b0 :: X24.k0) (cE0 (.clo (.func g) fs cs) n f a (i + 1)) (cS0 (D ++ jrow part n a[i].2))) :
   Run T Q (.inLoop X24.b0 :: X24.k0) (cE0 (.clo (.func g) fs cs) n f a i) (cS0 D) := by
 have ha1 := ha.1
 obtain ⟨gi, fi, ci, hcall, hund, hiter⟩ := hOf [.cells false [.nils], .cells false [.int .i64 0], .cells false [.ref 3 D.length 0 D.length 1], outO D, .cells false [rowA a[i].1 a[i].2], .cells false [.bool false]]
 have hys : (part a[i].2).length ≤ (jrow part n a[i].2).length := by
  unfold jrow
  split
  ·rename_i h; rw [h.1]; simp
  ·simp
 rw [run_round, run_unfold X24.b0.eq_1]
 simp (maxSteps := 2000000) only [go_sem, hi]
 refine hcall _ ?_
 simp (maxSteps := 2000000) only [go_sem]
 unfold RangeC
 have hof8 : (AVal.clo (.func g) fs cs).under 7 = true := AVal.names_le hof (by omega)
 have hit : (AVal.clo (.func gi) fi ci).under 6 = true := hund
 refine hiter (o := 6) (L := 7) (G := fun τ => ∃ D fd, τ = PS0 (cEnv (.clo (.func g) fs cs) n f a i (.clo (.func gi) fi ci)) a[i].1 a[i].2 D fd .ready) ?_ (by decide) (by simp only [List.length_cons, List.length_nil]; omega) (collect_its0 hx1 hx2 hof8 hit (part a[i].2) D false hp (by omega)) ?_
 ·rintro τ ⟨D', fd', rfl⟩
  obtain ⟨k1, k2⟩ := collect_good0 (of := .clo (.func g) fs cs) (it := .clo (.func gi) fi ci) (n := n) (f := f) (fx := a[i].1) (a := a) (i := i) (x := a[i].2) (D := D') (fd := fd') hof8 hit
  refine ⟨k1, k2, fun q ob hq => ?_⟩
  rcases q with _ | q
  ·first | exact hq | simp at hq
  ·simp at hq
 unfold RangeK
 simp (maxSteps := 2000000) only [go_sem]
 have hof4 := hof
 simp only [AVal.under, AVal.names, Bool.and_eq_true] at hof4
 by_cases hys0 : part a[i].2 = []
 ·rw [hys0]
  by_cases hn0 : 0 ≤ n
  ·have hj : jrow part n a[i].2 = [a[i].2 ++ List.replicate n.toNat zV] := by simp [jrow, hys0, hn0]
   rw [hj] at ih' hlen
   simp only [List.length_cons, List.length_nil] at hlen
   have h96 : ¬ ((D.length : Nat) : Int) = 4096 := by omega
   simp (maxSteps := 2000000) only [go_sem, run_unfold X24.c0.eq_1, run_unfold X24.c1.eq_1, run_unfold X24.c2.eq_1, run_unfold X24.c3.eq_1, X24.k0, hn0, h96, mkslF_row hn0 hn, X44_call hx1 hx2 (show (List.replicate n.toNat zV).length ≤ 1000000 by rw [List.length_replicate]; omega), List.append_nil, List.map_nil, List.isEmpty_nil]
   rw [appendV_push (nl := true) (nl' := false) rfl rfl (by simp) (by rw [sv_lst]; rfl) (by simp only [maxBytes]; omega)]
   have hap : D.map (fun r => rowA .lst r) ++ [rowA .lst (a[i].2 ++ List.replicate n.toNat zV)] = (D ++ [a[i].2 ++ List.replicate n.toNat zV]).map (fun r => rowA .lst r) := by simp
   simp (maxSteps := 2000000) only [go_sem, run_unfold X24.c0.eq_1, run_unfold X24.c1.eq_1, run_unfold X24.c2.eq_1, run_unfold X24.c3.eq_1, X24.k0, hof4, wrap_succ (show i < 9223372036854775807 by omega)]
   rw [hap]
   simp only [cS0, List.length_append, List.length_cons, List.length_nil, Nat.zero_add] at ih'
   exact ⟨v_names_map (fun _ => sv_pure) _, ih'⟩
  ·have hj : jrow part n a[i].2 = [] := by simp [jrow, hys0, hn0]
   rw [hj, List.append_nil] at ih'
   simp (maxSteps := 2000000) only [go_sem, run_unfold X24.c0.eq_1, run_unfold X24.c1.eq_1, run_unfold X24.c2.eq_1, run_unfold X24.c3.eq_1, X24.k0, hn0, List.append_nil, List.map_nil, List.isEmpty_nil, hof4, wrap_succ (show i < 9223372036854775807 by omega)]
   exact ⟨v_names_map (fun _ => sv_pure) _, ih'⟩
 ·have hj : jrow part n a[i].2 = (part a[i].2).map fun p => a[i].2 ++ p.2 := by simp [jrow, hys0]
  have he : List.isEmpty (part a[i].2) = false := by simpa using hys0
  rw [hj] at ih'
  simp (maxSteps := 2000000) only [go_sem, run_unfold X24.c0.eq_1, run_unfold X24.c1.eq_1, run_unfold X24.c2.eq_1, run_unfold X24.c3.eq_1, X24.k0, he, hof4, wrap_succ (show i < 9223372036854775807 by omega)]
  exact ⟨v_names_map (fun _ => sv_pure) _, ih'⟩

theorem collect_over0 {g : FuncId} {fs cs : List AVal} {n : Int} {f : SlF} {a : Rows} {part : List Val → Rows} (ha : RowsFit a) (hn : n ≤ 1000) (hof : (AVal.clo (.func g) fs cs).under 4 = true) {i : Nat} (hi : i < a.length)
  (hOf : OfC g fs cs (fun _ => []) a[i].1 a[i].2 (part a[i].2)) (hx1 : 0 < a[i].2.length) (hx2 : a[i].2.length ≤ 1000000) (hp : ∀ q ∈ part a[i].2, q.2.length ≤ 1000000) {D : List (List Val)} (hD : D.length ≤ 4096) (hlen : 4096 < D.length + (jrow part n a[i].2).length) :
   Run T (Res [.cell 6 false 1, .cell 7 false 1] (.tup [.nils, .int .i64 2])) (.inLoop X24.b0 :: X24.k0) (cE0 (.clo (.func g) fs cs) n f a i) (cS0 D) := by
 have ha1 := ha.1
 obtain ⟨gi, fi, ci, hcall, hund, hiter⟩ := hOf [.cells false [.nils], .cells false [.int .i64 0], .cells false [.ref 3 D.length 0 D.length 1], outO D, .cells false [rowA a[i].1 a[i].2], .cells false [.bool false]]
 rw [run_round, run_unfold X24.b0.eq_1]
 simp (maxSteps := 2000000) only [go_sem, hi]
 refine hcall _ ?_
 simp (maxSteps := 2000000) only [go_sem]
 unfold RangeC
 have hof8 : (AVal.clo (.func g) fs cs).under 7 = true := AVal.names_le hof (by omega)
 have hit : (AVal.clo (.func gi) fi ci).under 6 = true := hund
 have hGood : ∀ τ, (∃ D fd, τ = PS0 (cEnv (.clo (.func g) fs cs) n f a i (.clo (.func gi) fi ci)) a[i].1 a[i].2 D fd .ready) → τ.length = 7 ∧ τ.all (AObj.under 7) = true ∧ ∀ (q : Nat) (ob : AObj), ((fun _ => []) (rowA a[i].1 a[i].2))[q]? = some ob → τ[6 + q]? = some ob := by
  rintro τ ⟨D', fd', rfl⟩
  obtain ⟨k1, k2⟩ := collect_good0 (of := .clo (.func g) fs cs) (it := .clo (.func gi) fi ci) (n := n) (f := f) (fx := a[i].1) (a := a) (i := i) (x := a[i].2) (D := D') (fd := fd') hof8 hit
  refine ⟨k1, k2, fun q ob hq => ?_⟩
  rcases q with _ | q
  ·first | exact hq | simp at hq
  ·simp at hq
 by_cases hz : part a[i].2 = [] ∧ 0 ≤ n
 ·obtain ⟨hys0, hn0⟩ := hz
  have h9 : D.length = 4096 := by
   have : jrow part n a[i].2 = [a[i].2 ++ List.replicate n.toNat zV] := by simp [jrow, hys0, hn0]
   rw [this] at hlen; simp only [List.length_cons, List.length_nil] at hlen; omega
  have h96 : ((D.length : Nat) : Int) = 4096 := by omega
  refine hiter (o := 6) (L := 7) hGood (by decide) (by simp only [List.length_cons, List.length_nil]; omega) (collect_its0 hx1 hx2 hof8 hit (part a[i].2) D false hp (by rw [hys0]; simp; omega)) ?_
  unfold RangeK
  rw [hys0]
  simp (maxSteps := 2000000) only [go_sem, run_unfold X24.c0.eq_1, run_unfold X24.c1.eq_1, run_unfold X24.c2.eq_1, run_unfold X24.c3.eq_1, X24.k0, hn0, h96, List.append_nil, List.map_nil, List.isEmpty_nil]
  exact snapA_step (n := 63) (v := .tup [.nils, .int .i64 2]) (by simp (maxSteps := 2000000) only [go_sem])
 ·have hy : D.length + (part a[i].2).length > 4096 := by
   have : jrow part n a[i].2 = (part a[i].2).map fun p => a[i].2 ++ p.2 := by
    unfold jrow; rw [if_neg hz]
   rw [this, List.length_map] at hlen; exact hlen
  obtain ⟨D', hits⟩ := collect_itsB0 (of := .clo (.func g) fs cs) (it := .clo (.func gi) fi ci) (n := n) (f := f) (fx := a[i].1) (a := a) (i := i) hx1 hx2 hof8 hit (part a[i].2) D false hp hD hy
  refine hiter (o := 6) (L := 7) hGood (by decide) (by simp only [List.length_cons, List.length_nil]; omega) hits ?_
  unfold RangeK
  simp (maxSteps := 2000000) only [go_sem, run_unfold X24.c0.eq_1, run_unfold X24.c1.eq_1, run_unfold X24.c2.eq_1, run_unfold X24.c3.eq_1, X24.k0, runx_ret]
  exact snapA_step (n := 63) (v := .tup [.nils, .int .i64 2]) (by simp (maxSteps := 2000000) only [go_sem])
theorem collect_run0 {g : FuncId} {fs cs : List AVal} {n : Int} {f : SlF} {a : Rows} {part : List Val → Rows} (ha : RowsFit a) (hn : n ≤ 1000) (hof : (AVal.clo (.func g) fs cs).under 4 = true)
  (hOf : ∀ p ∈ a, OfC g fs cs (fun _ => []) p.1 p.2 (part p.2)) (hx : ∀ p ∈ a, 0 < p.2.length ∧ p.2.length ≤ 1000000) (hp : ∀ p ∈ a, ∀ q ∈ part p.2, q.2.length ≤ 1000000) {D1 : List (List Val)} : ∀ i, i ≤ a.length → ∀ D, D.length ≤ 4096 → D ++ (a.drop i).flatMap (fun p => jrow part n p.2) = D1 →
   Run T (Res [.cell 6 false 1, .cell 7 false 1] (colV D1)) (.inLoop X24.b0 :: X24.k0) (cE0 (.clo (.func g) fs cs) n f a i) (cS0 D) := by
 refine up_ind (fun D hD e => ?_) fun i hi ih D hD e => ?_
 ·rw [List.drop_length, List.flatMap_nil, List.append_nil] at e
  subst e
  rw [col_ok hD]; exact collect_fin
 ·rw [List.drop_eq_getElem_cons hi, List.flatMap_cons, ← List.append_assoc] at e
  have hm := List.getElem_mem hi
  obtain ⟨hx1, hx2⟩ := hx _ hm
  by_cases hl : D.length + (jrow part n a[i].2).length ≤ 4096
  ·exact collect_step0 ha hn hof hi (hOf _ hm) hx1 hx2 (hp _ hm) hl (ih _ (by rw [List.length_append]; exact hl) e)
  ·have hbig : 4096 < D1.length := by
    rw [← e]; simp only [List.length_append]; omega
   rw [col_big hbig]
   exact collect_over0 ha hn hof hi (hOf _ hm) hx1 hx2 (hp _ hm) hD (by omega)
theorem collect_specB0 {g : FuncId} {fs cs : List AVal} {n : Int} {f : SlF} {a : Rows} {part : List Val → Rows} (ha : RowsFit a) (hn : n ≤ 1000) (hpure : (AVal.clo (.func g) fs cs).pure = true)
  (hOf : ∀ p ∈ a, OfC g fs cs (fun _ => []) p.1 p.2 (part p.2)) (hx : ∀ p ∈ a, 0 < p.2.length ∧ p.2.length ≤ 1000000) (hp : ∀ p ∈ a, ∀ q ∈ part p.2, q.2.length ≤ 1000000)
  {lv : List Nat} {σ : Sto} {R : Post} : Cw T true i_X24 [rowsA f a, .clo (.func g) fs cs, .int .i64 n] lv σ R ↔ R (colV (a.flatMap fun p => jrow part n p.2)) σ := by
 refine cw_intro T_X24 ?_ (by simp) ?_
 ·simp only [AVal.pures, AVal.namesL, hpure, Bool.and_true]; simp (maxSteps := 2000000) only [go_sem]
 rw [run_unfold X24.main.eq_1]
 have h := collect_run0 (f := f) (n := n) ha hn (AVal.names_imp (by simp) _ hpure) hOf hx hp 0 (by omega) [] (by simp) rfl
 simp only [List.drop_zero, List.nil_append] at h
 simp (maxSteps := 2000000) only [go_sem]
 exact h

theorem nestedB_collect {f g : SlF} {a b : Rows} {i j n : Int} (h : JoinOk a b i j) (hn : n ≤ 1000) {lv : List Nat} {σ : Sto} {R : Post} :
  Cw T true i_X24 [rowsA f a, .clo (.func i_X33) [] [.fptr [rowsA g b], onF i j], .int .i64 n] lv σ R ↔ R (colV (joinL a b i j n)) σ :=
 collect_specB1 (part := fun x => b.filter (partP x i j)) h.fa hn (by simp (maxSteps := 2000000) only [go_sem]) (fun p hp => ofLoop h.fb (h.ca p hp) h.cb) (fun p hp => ⟨by have := h.ca p hp; omega, h.la p hp⟩) (fun p _ q hq => h.lb q (List.mem_filter.1 hq).1)
theorem nestedB_call {f g : SlF} {a b : Rows} {i j n : Int} (h : JoinOk a b i j) (hn : n ≤ 1000) {Q : Post3} {k : List Item} {os : List AOper} {d : Option Nat} {e : Env} {σ : Sto} :
  CallK T Q k os d e σ true i_X24 [rowsA f a, .clo (.func i_X33) [] [.fptr [rowsA g b], onF i j], .int .i64 n] ↔ Run T Q (.ops os :: k) (put e d (colV (joinL a b i j n))) σ := nestedB_collect h hn
theorem hashB_collect {f : SlF} {a b : Rows} {i j n : Int} (h : JoinOk a b i j) (hn : n ≤ 1000) {lv : List Nat} {σ : Sto} {R : Post} :
  Cw T true i_X24 [rowsA f a, tblC b i j, .int .i64 n] lv σ R ↔ R (colV (joinL a b i j n)) σ :=
 collect_specB0 (part := fun x => b.filter (partP x i j)) h.fa hn tblC_pure (fun p hp => ofTbl h.fb (h.ca p hp)) (fun p hp => ⟨by have := h.ca p hp; omega, h.la p hp⟩) (fun p _ q hq => h.lb q (List.mem_filter.1 hq).1)
theorem hashB_call {f : SlF} {a b : Rows} {i j n : Int} (h : JoinOk a b i j) (hn : n ≤ 1000) {Q : Post3} {k : List Item} {os : List AOper} {d : Option Nat} {e : Env} {σ : Sto} :
  CallK T Q k os d e σ true i_X24 [rowsA f a, tblC b i j, .int .i64 n] ↔ Run T Q (.ops os :: k) (put e d (colV (joinL a b i j n))) σ := hashB_collect h hn

end Go.Abs
/- Walks of chapter 40: too many rows by merging. -/
set_option linter.unusedSimpArgs false
set_option linter.unusedVariables false
set_option maxRecDepth 100000
set_option maxHeartbeats 4000000
namespace Go.Abs
open Go
attribute [local go_sem_proc] Nat.reduceLT Nat.reduceEqDiff Nat.reduceLeDiff Nat.reduceAdd Nat.reduceSub Nat.reduceMul Int.reduceLT Int.reduceLE Int.reduceEq Int.reduceNeg
attribute [local go_sem_proc ↓] reduceIte
abbrev PB2 (gb : SlF) (bb : Rows) (i0 j0 : Int) (m : Nat) (e : Env) (fx : SlF) (x : List Val) (D : List (List Val)) (fd : Bool) (st : LSt) : Sto := [onO i0 j0, .cells false [rowsA gb bb], onO i0 j0, .cells false [.int .i64 (m : Int)], .cells false [.nils], .cells false [.int .i64 2], .cells false [.ref 7 D.length 0 D.length 1], outO D, .cells false [rowA fx x], .cells false [.bool fd], vO (colN x i0), .loop [22] X24.y0 e st]
theorem collect_stop2 {gb : SlF} {bb : Rows} {i0 j0 : Int} {m : Nat} {of it : AVal} {n : Int} {f fx fy : SlF} {a : Rows} {i : Nat} {x y : List Val} {D : List (List Val)} {fd : Bool} (hD : D.length = 4096) :
  Yields 11 (rowA fy y) (PS2 gb bb i0 j0 m (cEnv2 of n f a i it) fx x D fd .ready) false (PB2 gb bb i0 j0 m (cEnv2 of n f a i it) fx x D true (.done .ret)) := by
 intro R hR
 rw [cw_yield no_yield]
 have hD' : ((D.length : Nat) : Int) = 4096 := by omega
 simp (maxSteps := 2000000) only [go_sem, putAll_one, List.length_cons, List.length_nil, true_and]
 rw [run_unfold X24.y0.eq_1]
 simp (maxSteps := 2000000) only [go_sem, hD']
 exact hR

theorem collect_itsB2 {gb : SlF} {bb : Rows} {i0 j0 : Int} {m : Nat} {of it : AVal} {n : Int} {f fx : SlF} {a : Rows} {i : Nat} {x : List Val} (hx : 0 < x.length) (hxl : x.length ≤ 1000000) (hof : of.under 12 = true) (hit : it.under 11 = true) : ∀ (ys : Rows) (D : List (List Val)) (fd : Bool), (∀ p ∈ ys, p.2.length ≤ 1000000) → D.length ≤ 4096 → 4096 < D.length + ys.length →
  ∃ D', Its (fun τ => ∃ D fd, τ = PS2 gb bb i0 j0 m (cEnv2 of n f a i it) fx x D fd .ready) 11 (ys.map fun p => rowA p.1 p.2) (PS2 gb bb i0 j0 m (cEnv2 of n f a i it) fx x D fd .ready) (PB2 gb bb i0 j0 m (cEnv2 of n f a i it) fx x D' true (.done .ret))
 | [], D, fd, _, _, h => by simp only [List.length_nil] at h; omega
 | p :: ys, D, fd, hy, hD, h => by
  simp only [List.length_cons] at h
  by_cases h9 : D.length = 4096
  ·exact ⟨D, .stop ⟨D, fd, rfl⟩ (collect_stop2 h9)⟩
  ·have h1 := collect_yield2 (gb := gb) (bb := bb) (i0 := i0) (j0 := j0) (m := m) (of := of) (it := it) (n := n) (f := f) (fx := fx) (fy := p.1) (a := a) (i := i) (x := x) (y := p.2) (D := D) (fd := fd) hx hxl (hy p (by simp)) (by omega) hof hit
   obtain ⟨D', h2⟩ := collect_itsB2 (gb := gb) (bb := bb) (i0 := i0) (j0 := j0) (m := m) (of := of) (it := it) (n := n) (f := f) (fx := fx) (a := a) (i := i) hx hxl hof hit ys (D ++ [x ++ p.2]) true (fun q hq => hy q (by simp [hq])) (by simp only [List.length_append, List.length_cons, List.length_nil]; omega) (by simp only [List.length_append, List.length_cons, List.length_nil]; omega)
   exact ⟨D', .more ⟨D, fd, rfl⟩ h1 h2⟩

theorem collect_run2 {f : SlF} {gb : SlF} {a bb : Rows} {i0 j0 : Int} {R : Post} (hg : gb ≠ .emp) (h : JoinOk a bb i0 j0) (hM : MPart a bb i0 j0) {D1 : List (List Val)} (hR : ∀ σ, R (colV D1) σ) : ∀ i, i ≤ a.length → ∀ D m, MInv a bb i0 j0 m i → D.length ≤ 4096 → D ++ joinL (a.drop i) bb i0 j0 (-1) = D1 →
   Run T (Ret [.cell 6 false 1, .cell 7 false 1] R) (.inLoop X24.b0 :: X24.k0) (cE2 mC (-1) f a i) (cS2 gb bb i0 j0 m D) := by
 have ha := h.fa
 have ha1 := ha.1
 refine up_ind (fun D m hm hl hD => ?_) fun i hi ih D m hm hl hD => ?_
 ·rw [List.drop_length, joinL, List.flatMap_nil, List.append_nil] at hD
  subst hD
  rw [run_round, run_unfold X24.b0.eq_1]
  rw [col_ok hl] at hR
  simp (maxSteps := 2000000) only [go_sem, run_unfold X24.c0.eq_1, run_unfold X24.c1.eq_1, run_unfold X24.c2.eq_1, run_unfold X24.c3.eq_1, X24.k0, Int.lt_irrefl, inner_out2]
  exact hR _
 ·rw [List.drop_eq_getElem_cons hi, joinL, List.flatMap_cons, ← List.append_assoc] at hD
  obtain ⟨hm', hpart⟩ := hM i hi m hm
  have hmem := List.getElem_mem hi
  have hx1 : 0 < a[i].2.length := by have := h.ca _ hmem; omega
  have hx2 := h.la _ hmem
  rw [run_round, run_unfold X24.b0.eq_1]
  simp (maxSteps := 2000000) only [go_sem, hi]
  refine merge1_call hg h.fb h.cb (h.ca _ hmem) hm.le ?_
  rw [hpart]
  simp (maxSteps := 2000000) only [go_sem]
  unfold RangeC
  generalize skipN bb j0 (colN a[i].2 i0) m = m1 at *
  have hof12 : mC.under 12 = true := rfl
  have hit : (AVal.clo (.func i_X5) [] [.fptr [rowsA (slF gb bb) (bb.filter (partP a[i].2 i0 j0))]]).under 11 = true := by simp (maxSteps := 2000000) only [go_sem]
  have hjr : (jrow (fun x => bb.filter (partP x i0 j0)) (-1) a[i].2) = (bb.filter (partP a[i].2 i0 j0)).map fun p => a[i].2 ++ p.2 := jrow_neg
  rw [hjr] at hD
  have hys : ∀ q ∈ bb.filter (partP a[i].2 i0 j0), q.2.length ≤ 1000000 := fun q hq => h.lb q (List.mem_filter.1 hq).1
  have hGood : ∀ τ, (∃ D fd, τ = PS2 gb bb i0 j0 m1 (cEnv2 mC (-1) f a i (.clo (.func i_X5) [] [.fptr [rowsA (slF gb bb) (bb.filter (partP a[i].2 i0 j0))]])) a[i].1 a[i].2 D fd .ready) → τ.length = 12 ∧ τ.all (AObj.under 12) = true := by
   rintro τ ⟨D', fd', rfl⟩
   exact collect_good2 hof12 hit
  by_cases hlen : D.length + (bb.filter (partP a[i].2 i0 j0)).length ≤ 4096
  ·have ih' := ih _ _ hm' (by rw [List.length_append, List.length_map]; exact hlen) hD
   refine values_iter (o := 11) (L := 12) hGood (by decide) (h.fb.filter _) (collect_its2 hx1 hx2 hof12 hit (bb.filter (partP a[i].2 i0 j0)) D false hys hlen) ?_
   unfold RangeK
   have hn0 : ¬ (0 : Int) ≤ -1 := by decide
   have w1 := wrap_succ (show i < 9223372036854775807 by omega)
   simp only [cS2] at ih'
   cases he : (bb.filter (partP a[i].2 i0 j0)).isEmpty
   ·simp (maxSteps := 2000000) only [go_sem, run_unfold X24.c0.eq_1, run_unfold X24.c1.eq_1, run_unfold X24.c2.eq_1, run_unfold X24.c3.eq_1, X24.k0, he, w1]
    exact ⟨v_names_map (fun _ => sv_pure) _, ih'⟩
   ·simp (maxSteps := 2000000) only [go_sem, run_unfold X24.c0.eq_1, run_unfold X24.c1.eq_1, run_unfold X24.c2.eq_1, run_unfold X24.c3.eq_1, X24.k0, he, hn0, w1]
    exact ⟨v_names_map (fun _ => sv_pure) _, ih'⟩
  ·have hbig : 4096 < D1.length := by
    rw [← hD]; simp only [List.length_append, List.length_map]; omega
   rw [col_big hbig] at hR
   obtain ⟨D', hits⟩ := collect_itsB2 (gb := gb) (bb := bb) (i0 := i0) (j0 := j0) (m := m1) (of := mC) (n := -1) (f := f) (fx := a[i].1) (a := a) (i := i) hx1 hx2 hof12 hit (bb.filter (partP a[i].2 i0 j0)) D false hys hl (by omega)
   refine values_iter (o := 11) (L := 12) hGood (by decide) (h.fb.filter _) hits ?_
   unfold RangeK
   simp (maxSteps := 2000000) only [go_sem, run_unfold X24.c0.eq_1, run_unfold X24.c1.eq_1, run_unfold X24.c2.eq_1, run_unfold X24.c3.eq_1, X24.k0, runx_ret]
   exact hR _
theorem collect_specB2 {f : SlF} {gb : SlF} {a bb : Rows} {i0 j0 : Int} (hg : gb ≠ .emp) (h : JoinOk a bb i0 j0) (hM : MPart a bb i0 j0) {R : Post} (hR : ∀ σ, R (colV (joinL a bb i0 j0 (-1))) σ) : Cw T false i_X24 [rowsA f a, mC, .int .i64 (-1)] [] (mS (onO i0 j0) gb bb i0 j0 0 []) R := by
 rw [cw_enter T_X24 (by simp), run_unfold X24.main.eq_1]
 have hl := collect_run2 (f := f) (R := R) hg h hM hR 0 (by omega) [] 0 ⟨by omega, fun q hq => by simp at hq⟩ (by simp) rfl
 simp (maxSteps := 2000000) only [go_sem, mS]
 exact hl
end Go.Abs
/- Walks of chapter 40: joins of any lists, with all errors. -/
set_option linter.unusedSimpArgs false
set_option linter.unusedVariables false
set_option maxRecDepth 100000
set_option maxHeartbeats 4000000
namespace Go.Abs.B
open Go Go.Abs

structure Gok (a b : Rows) : Prop where
 fa : RowsFit a
 fb : RowsFit b
 la : ∀ p ∈ a, p.2.length ≤ 1000000
 lb : ∀ p ∈ b, p.2.length ≤ 1000000
def fits (a b : Rows) (i j : Int) : Bool := fitB a i && fitB b j
theorem fit_col {a : Rows} {n : Int} (h : fitB a n = true) : 0 ≤ n ∧ AllCol a n := by
 rw [fitB, Bool.and_eq_true, decide_eq_true_eq] at h
 refine ⟨h.1, fun p hp => ⟨h.1, ?_⟩⟩
 have h2 := h.2
 simp only [Bool.not_eq_true', List.any_eq_false] at h2
 have := h2 p hp
 simp only [shortP, decide_eq_true_eq] at this
 omega
theorem Gok.ok {a b : Rows} {i j : Int} (h : Gok a b) (hf : fits a b i j = true) : JoinOk a b i j := by
 rw [fits, Bool.and_eq_true] at hf
 obtain ⟨h1, h2⟩ := fit_col hf.1
 obtain ⟨h3, h4⟩ := fit_col hf.2
 exact ⟨h.fa, h.fb, h1, h3, h2, h4, h.la, h.lb⟩
structure Rs where
 f : SlF
 l : Rows
 e : Int
abbrev Rs.t (r : Rs) : AVal := .tup [rowsA r.f r.l, .int .i64 r.e]
abbrev Rs.g (r : Rs) : AVal := .agg [rowsA r.f r.l, .int .i64 r.e]
def bad (e : Int) : Rs := ⟨.nil, [], e⟩
def colR (L : List (List Val)) : Rs := if L.length ≤ 4096 then ⟨flO L, lstR L, 0⟩ else bad 2
theorem colV_eq (L : List (List Val)) : colV L = (colR L).t := by
 by_cases h : L.length ≤ 4096
 ·rw [col_ok h]; simp only [colR, if_pos h]
 ·rw [col_big (by omega)]; simp only [colR, if_neg h, bad]; rfl
def nestR (a b : Rows) (i j : Int) : Rs := if fits a b i j = true then colR (joinL a b i j (-1)) else bad 1
def mergeR (a b : Rows) (i j : Int) : Rs := if fits a b i j = true ∧ srt a i = true ∧ srt b j = true then colR (joinL a b i j (-1)) else bad 1
def partR (a b : Rows) (i j : Int) (w : Bool) : Rs := if fits a b i j = true then ⟨flR (someR a b i j w), someR a b i j w, 0⟩ else bad 1
def outerR (a b : Rows) (i j n : Int) : Rs := if fits a b i j = true ∧ 0 ≤ n ∧ n ≤ 32 then colR (joinL a b i j n) else bad 1

theorem fitsF {a b : Rows} {i j : Int} (h : fits a b i j = false) : (fitB a i && fitB b j) = false := h
theorem X31_spec {f g : SlF} {a b : Rows} {i j : Int} (h : Gok a b) {lv : List Nat} {σ : Sto} {R : Post} : Cw T true i_X31 [rowsA f a, rowsA g b, onA i j] lv σ R ↔ R ((nestR a b i j).t) σ := by
 refine cw_intro T_X31 (by simp only [go_sem]) (by simp) ?_; rw [run_unfold X31.main.eq_1]
 cases hf : fits a b i j
 ·have e : nestR a b i j = bad 1 := by simp [nestR, hf]
  rw [e]
  simp (maxSteps := 2000000) only [go_sem, ↓reduceIte, Nat.reduceLT, Nat.reduceEqDiff, Nat.reduceLeDiff, Nat.reduceAdd, Nat.reduceSub, Nat.reduceMul, Int.reduceLT, Int.reduceLE, Int.reduceEq, Int.reduceNeg, X54_call h.fa h.fb, fitsF hf, bad]
  rfl
 ·have hk := h.ok hf
  have e : nestR a b i j = colR (joinL a b i j (-1)) := by simp [nestR, hf]
  rw [e]
  simp (maxSteps := 2000000) only [go_sem, ↓reduceIte, Nat.reduceLT, Nat.reduceEqDiff, Nat.reduceLeDiff, Nat.reduceAdd, Nat.reduceSub, Nat.reduceMul, Int.reduceLT, Int.reduceLE, Int.reduceEq, Int.reduceNeg, X54_call h.fa h.fb, fit_all hk.hi hk.ca, fit_all hk.hj hk.cb, nestedB_call hk (show (-1 : Int) ≤ 1000 by omega), Bool.true_and, colV_eq]
  done
@[go_sem] theorem X31_call {f g : SlF} {a b : Rows} {i j : Int} (h : Gok a b) {Q : Post3} {k : List Item} {os : List AOper} {d : Option Nat} {e : Env} {σ : Sto} : CallK T Q k os d e σ true i_X31 [rowsA f a, rowsA g b, onA i j] ↔ Run T Q (.ops os :: k) (put e d ((nestR a b i j).t)) σ := X31_spec h

theorem X45_spec {f g : SlF} {a b : Rows} {i j : Int} (h : Gok a b) {lv : List Nat} {σ : Sto} {R : Post} : Cw T true i_X45 [rowsA f a, rowsA g b, onA i j] lv σ R ↔ R ((nestR a b i j).t) σ := by
 refine cw_intro T_X45 (by simp only [go_sem]) (by simp) ?_; rw [run_unfold X45.main.eq_1]
 cases hf : fits a b i j
 ·have e : nestR a b i j = bad 1 := by simp [nestR, hf]
  rw [e]
  simp (maxSteps := 2000000) only [go_sem, ↓reduceIte, Nat.reduceLT, Nat.reduceEqDiff, Nat.reduceLeDiff, Nat.reduceAdd, Nat.reduceSub, Nat.reduceMul, Int.reduceLT, Int.reduceLE, Int.reduceEq, Int.reduceNeg, X54_call h.fa h.fb, fitsF hf, bad]
  rfl
 ·have hk := h.ok hf
  have e : nestR a b i j = colR (joinL a b i j (-1)) := by simp [nestR, hf]
  rw [e]
  simp (maxSteps := 2000000) only [go_sem, ↓reduceIte, Nat.reduceLT, Nat.reduceEqDiff, Nat.reduceLeDiff, Nat.reduceAdd, Nat.reduceSub, Nat.reduceMul, Int.reduceLT, Int.reduceLE, Int.reduceEq, Int.reduceNeg, X54_call h.fa h.fb, fit_all hk.hi hk.ca, fit_all hk.hj hk.cb, X40_call hk.fb hk.cb, hashB_call hk (show (-1 : Int) ≤ 1000 by omega), Bool.true_and, colV_eq]
  done
@[go_sem] theorem X45_call {f g : SlF} {a b : Rows} {i j : Int} (h : Gok a b) {Q : Post3} {k : List Item} {os : List AOper} {d : Option Nat} {e : Env} {σ : Sto} : CallK T Q k os d e σ true i_X45 [rowsA f a, rowsA g b, onA i j] ↔ Run T Q (.ops os :: k) (put e d ((nestR a b i j).t)) σ := X45_spec h

theorem X35_spec {f g : SlF} {a b : Rows} {i j : Int} (hg : g ≠ .emp) (h : Gok a b) {lv : List Nat} {σ : Sto} {R : Post} : Cw T true i_X35 [rowsA f a, rowsA g b, onA i j] lv σ R ↔ R ((mergeR a b i j).t) σ := by
 refine cw_intro T_X35 (by simp only [go_sem]) (by simp) ?_; rw [run_unfold X35.main.eq_1]
 cases hf : fits a b i j
 ·have e : mergeR a b i j = bad 1 := by simp [mergeR, hf]
  rw [e]
  simp (maxSteps := 2000000) only [go_sem, ↓reduceIte, Nat.reduceLT, Nat.reduceEqDiff, Nat.reduceLeDiff, Nat.reduceAdd, Nat.reduceSub, Nat.reduceMul, Int.reduceLT, Int.reduceLE, Int.reduceEq, Int.reduceNeg, X54_call h.fa h.fb, fitsF hf, bad]
  rfl
 ·have hk := h.ok hf
  have c1 := fun {Q k os d e σ} => @X1_call f a i hk.fa hk.ca Q k os d e σ
  have c2 := fun {Q k os d e σ} => @X1_call g b j hk.fb hk.cb Q k os d e σ
  cases ha : srt a i
  ·have e : mergeR a b i j = bad 1 := by simp [mergeR, hf, ha]
   rw [e]
   simp (maxSteps := 2000000) only [go_sem, ↓reduceIte, Nat.reduceLT, Nat.reduceEqDiff, Nat.reduceLeDiff, Nat.reduceAdd, Nat.reduceSub, Nat.reduceMul, Int.reduceLT, Int.reduceLE, Int.reduceEq, Int.reduceNeg, X54_call h.fa h.fb, fit_all hk.hi hk.ca, fit_all hk.hj hk.cb, Bool.true_and, Bool.false_and, X18_call, c1, ha, bad]
   rfl
  ·cases hb : srt b j
   ·have e : mergeR a b i j = bad 1 := by simp [mergeR, hf, ha, hb]
    rw [e]
    simp (maxSteps := 2000000) only [go_sem, ↓reduceIte, Nat.reduceLT, Nat.reduceEqDiff, Nat.reduceLeDiff, Nat.reduceAdd, Nat.reduceSub, Nat.reduceMul, Int.reduceLT, Int.reduceLE, Int.reduceEq, Int.reduceNeg, X54_call h.fa h.fb, fit_all hk.hi hk.ca, fit_all hk.hj hk.cb, Bool.true_and, Bool.and_false, X18_call, c1, c2, ha, hb, bad]
    rfl
   ·have e : mergeR a b i j = colR (joinL a b i j (-1)) := by simp [mergeR, hf, ha, hb]
    rw [e]
    have hcol := fun R hR => collect_specB2 (f := f) (R := R) hg hk (mpart ha hb) hR
    simp (maxSteps := 2000000) only [go_sem, ↓reduceIte, Nat.reduceLT, Nat.reduceEqDiff, Nat.reduceLeDiff, Nat.reduceAdd, Nat.reduceSub, Nat.reduceMul, Int.reduceLT, Int.reduceLE, Int.reduceEq, Int.reduceNeg, X54_call h.fa h.fb, fit_all hk.hi hk.ca, fit_all hk.hj hk.cb, Bool.true_and, Bool.and_true, X18_call, c1, c2, ha, hb]
    refine merge_call.2 ?_
    simp (maxSteps := 2000000) only [go_sem, ↓reduceIte, Nat.reduceLT, Nat.reduceEqDiff, Nat.reduceLeDiff, Nat.reduceAdd, Nat.reduceSub, Nat.reduceMul, Int.reduceLT, Int.reduceLE, Int.reduceEq, Int.reduceNeg]
    refine hcol _ fun σ => ?_
    rw [colV_eq]
    simp (maxSteps := 2000000) only [go_sem, ↓reduceIte, Nat.reduceLT, Nat.reduceEqDiff, Nat.reduceLeDiff, Nat.reduceAdd, Nat.reduceSub, Nat.reduceMul, Int.reduceLT, Int.reduceLE, Int.reduceEq, Int.reduceNeg]
@[go_sem] theorem X35_call {f g : SlF} {a b : Rows} {i j : Int} (hg : g ≠ .emp) (h : Gok a b) {Q : Post3} {k : List Item} {os : List AOper} {d : Option Nat} {e : Env} {σ : Sto} : CallK T Q k os d e σ true i_X35 [rowsA f a, rowsA g b, onA i j] ↔ Run T Q (.ops os :: k) (put e d ((mergeR a b i j).t)) σ := X35_spec hg h

theorem X50_spec {f g : SlF} {a b : Rows} {i j : Int} {w : Bool} (h : Gok a b) {lv : List Nat} {σ : Sto} {R : Post} : Cw T true i_X50 [rowsA f a, rowsA g b, onA i j, .bool w] lv σ R ↔ R ((partR a b i j w).t) σ := by
 refine cw_intro T_X50 (by simp only [go_sem]) (by simp) ?_; rw [run_unfold X50.main.eq_1]
 cases hf : fits a b i j
 ·have e : partR a b i j w = bad 1 := by simp [partR, hf]
  rw [e]
  simp (maxSteps := 2000000) only [go_sem, ↓reduceIte, Nat.reduceLT, Nat.reduceEqDiff, Nat.reduceLeDiff, Nat.reduceAdd, Nat.reduceSub, Nat.reduceMul, Int.reduceLT, Int.reduceLE, Int.reduceEq, Int.reduceNeg, X54_call h.fa h.fb, fitsF hf, bad]
  rfl
 ·have hk := h.ok hf
  have e : partR a b i j w = ⟨flR (someR a b i j w), someR a b i j w, 0⟩ := by simp [partR, hf]
  rw [e]
  have hl := some_loop (f := f) (w := w) hk 0 (by omega) [] (by simp)
  simp only [List.drop_zero, sEnv, List.nil_append] at hl
  simp (maxSteps := 2000000) only [go_sem, ↓reduceIte, Nat.reduceLT, Nat.reduceEqDiff, Nat.reduceLeDiff, Nat.reduceAdd, Nat.reduceSub, Nat.reduceMul, Int.reduceLT, Int.reduceLE, Int.reduceEq, Int.reduceNeg, X54_call h.fa h.fb, fit_all hk.hi hk.ca, fit_all hk.hj hk.cb, X40_call hk.fb hk.cb, Bool.true_and]
  exact hl
@[go_sem] theorem X50_call {f g : SlF} {a b : Rows} {i j : Int} {w : Bool} (h : Gok a b) {Q : Post3} {k : List Item} {os : List AOper} {d : Option Nat} {e : Env} {σ : Sto} : CallK T Q k os d e σ true i_X50 [rowsA f a, rowsA g b, onA i j, .bool w] ↔ Run T Q (.ops os :: k) (put e d ((partR a b i j w).t)) σ := X50_spec h

theorem X53_spec {f g : SlF} {a b : Rows} {i j : Int} (h : Gok a b) {lv : List Nat} {σ : Sto} {R : Post} : Cw T true i_X53 [rowsA f a, rowsA g b, onA i j] lv σ R ↔ R ((partR a b i j true).t) σ := by
 refine cw_intro T_X53 (by simp only [go_sem]) (by simp) ?_; rw [run_unfold X53.main.eq_1]
 simp (maxSteps := 2000000) only [go_sem, ↓reduceIte, Nat.reduceLT, Nat.reduceEqDiff, Nat.reduceLeDiff, Nat.reduceAdd, Nat.reduceSub, Nat.reduceMul, Int.reduceLT, Int.reduceLE, Int.reduceEq, Int.reduceNeg, X50_call h]
 done
@[go_sem] theorem X53_call {f g : SlF} {a b : Rows} {i j : Int} (h : Gok a b) {Q : Post3} {k : List Item} {os : List AOper} {d : Option Nat} {e : Env} {σ : Sto} : CallK T Q k os d e σ true i_X53 [rowsA f a, rowsA g b, onA i j] ↔ Run T Q (.ops os :: k) (put e d ((partR a b i j true).t)) σ := X53_spec h

theorem X48_spec {f g : SlF} {a b : Rows} {i j : Int} (h : Gok a b) {lv : List Nat} {σ : Sto} {R : Post} : Cw T true i_X48 [rowsA f a, rowsA g b, onA i j] lv σ R ↔ R ((partR a b i j false).t) σ := by
 refine cw_intro T_X48 (by simp only [go_sem]) (by simp) ?_; rw [run_unfold X48.main.eq_1]
 simp (maxSteps := 2000000) only [go_sem, ↓reduceIte, Nat.reduceLT, Nat.reduceEqDiff, Nat.reduceLeDiff, Nat.reduceAdd, Nat.reduceSub, Nat.reduceMul, Int.reduceLT, Int.reduceLE, Int.reduceEq, Int.reduceNeg, X50_call h]
 done
@[go_sem] theorem X48_call {f g : SlF} {a b : Rows} {i j : Int} (h : Gok a b) {Q : Post3} {k : List Item} {os : List AOper} {d : Option Nat} {e : Env} {σ : Sto} : CallK T Q k os d e σ true i_X48 [rowsA f a, rowsA g b, onA i j] ↔ Run T Q (.ops os :: k) (put e d ((partR a b i j false).t)) σ := X48_spec h

theorem X42_spec {f g : SlF} {a b : Rows} {i j n : Int} (h : Gok a b) {lv : List Nat} {σ : Sto} {R : Post} : Cw T true i_X42 [rowsA f a, rowsA g b, onA i j, .int .i64 n] lv σ R ↔ R ((outerR a b i j n).t) σ := by
 refine cw_intro T_X42 (by simp only [go_sem]) (by simp) ?_; rw [run_unfold X42.main.eq_1]
 cases hf : fits a b i j
 ·have e : outerR a b i j n = bad 1 := by simp [outerR, hf]
  rw [e]
  simp (maxSteps := 2000000) only [go_sem, ↓reduceIte, Nat.reduceLT, Nat.reduceEqDiff, Nat.reduceLeDiff, Nat.reduceAdd, Nat.reduceSub, Nat.reduceMul, Int.reduceLT, Int.reduceLE, Int.reduceEq, Int.reduceNeg, X54_call h.fa h.fb, fitsF hf, bad]
  rfl
 ·have hk := h.ok hf
  by_cases h0 : n < 0
  ·have e : outerR a b i j n = bad 1 := by
    have : ¬ (0 ≤ n) := by omega
    simp [outerR, this]
   rw [e]
   simp (maxSteps := 2000000) only [go_sem, ↓reduceIte, Nat.reduceLT, Nat.reduceEqDiff, Nat.reduceLeDiff, Nat.reduceAdd, Nat.reduceSub, Nat.reduceMul, Int.reduceLT, Int.reduceLE, Int.reduceEq, Int.reduceNeg, X54_call h.fa h.fb, fit_all hk.hi hk.ca, fit_all hk.hj hk.cb, Bool.true_and, h0, bad]
   rfl
  ·by_cases h1 : 32 < n
   ·have e : outerR a b i j n = bad 1 := by
     have : ¬ (n ≤ 32) := by omega
     simp [outerR, this]
    rw [e]
    simp (maxSteps := 2000000) only [go_sem, ↓reduceIte, Nat.reduceLT, Nat.reduceEqDiff, Nat.reduceLeDiff, Nat.reduceAdd, Nat.reduceSub, Nat.reduceMul, Int.reduceLT, Int.reduceLE, Int.reduceEq, Int.reduceNeg, X54_call h.fa h.fb, fit_all hk.hi hk.ca, fit_all hk.hj hk.cb, Bool.true_and, h0, h1, bad]
    rfl
   ·have e : outerR a b i j n = colR (joinL a b i j n) := by
     have h2 : 0 ≤ n := by omega
     have h3 : n ≤ 32 := by omega
     simp [outerR, hf, h2, h3]
    rw [e]
    simp (maxSteps := 2000000) only [go_sem, ↓reduceIte, Nat.reduceLT, Nat.reduceEqDiff, Nat.reduceLeDiff, Nat.reduceAdd, Nat.reduceSub, Nat.reduceMul, Int.reduceLT, Int.reduceLE, Int.reduceEq, Int.reduceNeg, X54_call h.fa h.fb, fit_all hk.hi hk.ca, fit_all hk.hj hk.cb, X40_call hk.fb hk.cb, hashB_call hk (show n ≤ 1000 by omega), Bool.true_and, h0, h1, colV_eq]
    done
@[go_sem] theorem X42_call {f g : SlF} {a b : Rows} {i j n : Int} (h : Gok a b) {Q : Post3} {k : List Item} {os : List AOper} {d : Option Nat} {e : Env} {σ : Sto} : CallK T Q k os d e σ true i_X42 [rowsA f a, rowsA g b, onA i j, .int .i64 n] ↔ Run T Q (.ops os :: k) (put e d ((outerR a b i j n).t)) σ := X42_spec h

theorem X36_spec {f g : SlF} {a b : Rows} {i j : Int} (h : Gok a b) {lv : List Nat} {σ : Sto} {R : Post} : Cw T true i_X36 [rowsA f a, rowsA g b, onA i j] lv σ R ↔ R ((nestR a b i j).g) σ := by
 refine cw_intro T_X36 (by simp only [go_sem]) (by simp) ?_; rw [run_unfold X36.main.eq_1]
 simp (maxSteps := 2000000) only [go_sem, ↓reduceIte, Nat.reduceLT, Nat.reduceEqDiff, Nat.reduceLeDiff, Nat.reduceAdd, Nat.reduceSub, Nat.reduceMul, Int.reduceLT, Int.reduceLE, Int.reduceEq, Int.reduceNeg, X31_call h]
 done
@[go_sem] theorem X36_call {f g : SlF} {a b : Rows} {i j : Int} (h : Gok a b) {Q : Post3} {k : List Item} {os : List AOper} {d : Option Nat} {e : Env} {σ : Sto} : CallK T Q k os d e σ true i_X36 [rowsA f a, rowsA g b, onA i j] ↔ Run T Q (.ops os :: k) (put e d ((nestR a b i j).g)) σ := X36_spec h

theorem X58_spec {f g : SlF} {a b : Rows} {i j : Int} (h : Gok a b) {lv : List Nat} {σ : Sto} {R : Post} : Cw T true i_X58 [rowsA f a, rowsA g b, onA i j] lv σ R ↔ R ((nestR a b i j).g) σ := by
 refine cw_intro T_X58 (by simp only [go_sem]) (by simp) ?_; rw [run_unfold X58.main.eq_1]
 simp (maxSteps := 2000000) only [go_sem, ↓reduceIte, Nat.reduceLT, Nat.reduceEqDiff, Nat.reduceLeDiff, Nat.reduceAdd, Nat.reduceSub, Nat.reduceMul, Int.reduceLT, Int.reduceLE, Int.reduceEq, Int.reduceNeg, X45_call h]
 done
@[go_sem] theorem X58_call {f g : SlF} {a b : Rows} {i j : Int} (h : Gok a b) {Q : Post3} {k : List Item} {os : List AOper} {d : Option Nat} {e : Env} {σ : Sto} : CallK T Q k os d e σ true i_X58 [rowsA f a, rowsA g b, onA i j] ↔ Run T Q (.ops os :: k) (put e d ((nestR a b i j).g)) σ := X58_spec h

theorem X39_spec {f g : SlF} {a b : Rows} {i j : Int} (hg : g ≠ .emp) (h : Gok a b) {lv : List Nat} {σ : Sto} {R : Post} : Cw T true i_X39 [rowsA f a, rowsA g b, onA i j] lv σ R ↔ R ((mergeR a b i j).g) σ := by
 refine cw_intro T_X39 (by simp only [go_sem]) (by simp) ?_; rw [run_unfold X39.main.eq_1]
 simp (maxSteps := 2000000) only [go_sem, ↓reduceIte, Nat.reduceLT, Nat.reduceEqDiff, Nat.reduceLeDiff, Nat.reduceAdd, Nat.reduceSub, Nat.reduceMul, Int.reduceLT, Int.reduceLE, Int.reduceEq, Int.reduceNeg, X35_call hg h]
 done
@[go_sem] theorem X39_call {f g : SlF} {a b : Rows} {i j : Int} (hg : g ≠ .emp) (h : Gok a b) {Q : Post3} {k : List Item} {os : List AOper} {d : Option Nat} {e : Env} {σ : Sto} : CallK T Q k os d e σ true i_X39 [rowsA f a, rowsA g b, onA i j] ↔ Run T Q (.ops os :: k) (put e d ((mergeR a b i j).g)) σ := X39_spec hg h

theorem X55_spec {f g : SlF} {a b : Rows} {i j : Int} (h : Gok a b) {lv : List Nat} {σ : Sto} {R : Post} : Cw T true i_X55 [rowsA f a, rowsA g b, onA i j] lv σ R ↔ R ((partR a b i j true).g) σ := by
 refine cw_intro T_X55 (by simp only [go_sem]) (by simp) ?_; rw [run_unfold X55.main.eq_1]
 simp (maxSteps := 2000000) only [go_sem, ↓reduceIte, Nat.reduceLT, Nat.reduceEqDiff, Nat.reduceLeDiff, Nat.reduceAdd, Nat.reduceSub, Nat.reduceMul, Int.reduceLT, Int.reduceLE, Int.reduceEq, Int.reduceNeg, X53_call h]
 done
@[go_sem] theorem X55_call {f g : SlF} {a b : Rows} {i j : Int} (h : Gok a b) {Q : Post3} {k : List Item} {os : List AOper} {d : Option Nat} {e : Env} {σ : Sto} : CallK T Q k os d e σ true i_X55 [rowsA f a, rowsA g b, onA i j] ↔ Run T Q (.ops os :: k) (put e d ((partR a b i j true).g)) σ := X55_spec h

theorem X61_spec {f g : SlF} {a b : Rows} {i j : Int} (h : Gok a b) {lv : List Nat} {σ : Sto} {R : Post} : Cw T true i_X61 [rowsA f a, rowsA g b, onA i j] lv σ R ↔ R ((partR a b i j false).g) σ := by
 refine cw_intro T_X61 (by simp only [go_sem]) (by simp) ?_; rw [run_unfold X61.main.eq_1]
 simp (maxSteps := 2000000) only [go_sem, ↓reduceIte, Nat.reduceLT, Nat.reduceEqDiff, Nat.reduceLeDiff, Nat.reduceAdd, Nat.reduceSub, Nat.reduceMul, Int.reduceLT, Int.reduceLE, Int.reduceEq, Int.reduceNeg, X48_call h]
 done
@[go_sem] theorem X61_call {f g : SlF} {a b : Rows} {i j : Int} (h : Gok a b) {Q : Post3} {k : List Item} {os : List AOper} {d : Option Nat} {e : Env} {σ : Sto} : CallK T Q k os d e σ true i_X61 [rowsA f a, rowsA g b, onA i j] ↔ Run T Q (.ops os :: k) (put e d ((partR a b i j false).g)) σ := X61_spec h

theorem X49_spec {f g : SlF} {a b : Rows} {i j n : Int} (h : Gok a b) {lv : List Nat} {σ : Sto} {R : Post} : Cw T true i_X49 [.agg [rowsA f a, rowsA g b, .int .i64 i, .int .i64 j], .int .i64 n] lv σ R ↔ R ((outerR a b i j n).g) σ := by
 refine cw_intro T_X49 (by simp only [go_sem]) (by simp) ?_; rw [run_unfold X49.main.eq_1]
 simp (maxSteps := 2000000) only [go_sem, ↓reduceIte, Nat.reduceLT, Nat.reduceEqDiff, Nat.reduceLeDiff, Nat.reduceAdd, Nat.reduceSub, Nat.reduceMul, Int.reduceLT, Int.reduceLE, Int.reduceEq, Int.reduceNeg, X42_call h]
 done
@[go_sem] theorem X49_call {f g : SlF} {a b : Rows} {i j n : Int} (h : Gok a b) {Q : Post3} {k : List Item} {os : List AOper} {d : Option Nat} {e : Env} {σ : Sto} : CallK T Q k os d e σ true i_X49 [.agg [rowsA f a, rowsA g b, .int .i64 i, .int .i64 j], .int .i64 n] ↔ Run T Q (.ops os :: k) (put e d ((outerR a b i j n).g)) σ := X49_spec h

end Go.Abs.B
/- Walks of chapter 40: the reference's joins. -/
set_option linter.unusedSimpArgs false
set_option linter.unusedVariables false
set_option maxRecDepth 100000
set_option maxHeartbeats 4000000
namespace Go.Abs.B
open Go Go.Abs

theorem has_loop {f : SlF} {a : Rows} {n : Int} (ha : RowsFit a) : ∀ i, i ≤ a.length →
  Run T (Res [.tmp 4] (.bool (decide (0 ≤ n) && !((a.drop i).any (shortP n))))) (.inLoop X67.b0 :: X67.k0) (mkE 21 [(0, rowsA f a), (1, .int .i64 n), (5, .int .i64 i)]) [] := by
 have ha1 := ha.1
 refine up_ind ?_ fun i hi ih => ?_
 ·rw [run_round, run_unfold X67.b0.eq_1]
  have e : decide (0 ≤ n) = (decide (0 ≤ n) && !(List.drop a.length a).any (shortP n)) := by simp
  simp (maxSteps := 2000000) only [go_sem, ↓reduceIte, Nat.reduceLT, Nat.reduceEqDiff, Nat.reduceLeDiff, Nat.reduceAdd, Nat.reduceSub, Nat.reduceMul, Int.reduceLT, Int.reduceLE, Int.reduceEq, Int.reduceNeg, run_unfold X67.c0.eq_1, X67.k0, Int.lt_irrefl]
  rw [← e]
  done
 ·rw [run_round, run_unfold X67.b0.eq_1]
  rw [List.drop_eq_getElem_cons hi, List.any_cons]
  have w1 := wrap_succ (show i < 9223372036854775807 by omega)
  by_cases h : (a[i].2.length : Int) ≤ n
  ·have h1 : shortP n a[i] = true := decide_eq_true h
   rw [h1, Bool.true_or, Bool.not_true, Bool.and_false]
   simp (maxSteps := 2000000) only [go_sem, ↓reduceIte, Nat.reduceLT, Nat.reduceEqDiff, Nat.reduceLeDiff, Nat.reduceAdd, Nat.reduceSub, Nat.reduceMul, Int.reduceLT, Int.reduceLE, Int.reduceEq, Int.reduceNeg, hi, h]
   done
  ·have h1 : shortP n a[i] = false := decide_eq_false h
   rw [h1, Bool.false_or]
   simp (maxSteps := 2000000) only [go_sem, ↓reduceIte, Nat.reduceLT, Nat.reduceEqDiff, Nat.reduceLeDiff, Nat.reduceAdd, Nat.reduceSub, Nat.reduceMul, Int.reduceLT, Int.reduceLE, Int.reduceEq, Int.reduceNeg, hi, h, w1, run_unfold X67.c0.eq_1, X67.k0]
   exact ih
theorem X67_spec {f : SlF} {a : Rows} {n : Int} (ha : RowsFit a) {lv : List Nat} {σ : Sto} {R : Post} : Cw T true i_X67 [rowsA f a, .int .i64 n] lv σ R ↔ R (.bool (fitB a n)) σ := by
 refine cw_intro T_X67 (by simp only [go_sem]) (by simp) ?_; rw [run_unfold X67.main.eq_1]
 have := has_loop (f := f) (n := n) ha 0 (by omega)
 simp only [List.drop_zero] at this
 simp (maxSteps := 2000000) only [go_sem, ↓reduceIte, Nat.reduceLT, Nat.reduceEqDiff, Nat.reduceLeDiff, Nat.reduceAdd, Nat.reduceSub, Nat.reduceMul, Int.reduceLT, Int.reduceLE, Int.reduceEq, Int.reduceNeg]
 exact this
@[go_sem] theorem X67_call {f : SlF} {a : Rows} {n : Int} (ha : RowsFit a) {Q : Post3} {k : List Item} {os : List AOper} {d : Option Nat} {e : Env} {σ : Sto} : CallK T Q k os d e σ true i_X67 [rowsA f a, .int .i64 n] ↔ Run T Q (.ops os :: k) (put e d (.bool (fitB a n))) σ := X67_spec ha

theorem X69_spec {f g : SlF} {a b : Rows} {i j : Int} (ha : RowsFit a) (hb : RowsFit b) {lv : List Nat} {σ : Sto} {R : Post} : Cw T true i_X69 [rowsA f a, rowsA g b, onA i j] lv σ R ↔ R (.bool (fits a b i j)) σ := by
 refine cw_intro T_X69 (by simp only [go_sem]) (by simp) ?_; rw [run_unfold X69.main.eq_1]
 unfold fits
 cases h : fitB a i
 ·simp (maxSteps := 2000000) only [go_sem, ↓reduceIte, Nat.reduceLT, Nat.reduceEqDiff, Nat.reduceLeDiff, Nat.reduceAdd, Nat.reduceSub, Nat.reduceMul, Int.reduceLT, Int.reduceLE, Int.reduceEq, Int.reduceNeg, X67_call ha, X67_call hb, h, Bool.false_and]
  done
 ·simp (maxSteps := 2000000) only [go_sem, ↓reduceIte, Nat.reduceLT, Nat.reduceEqDiff, Nat.reduceLeDiff, Nat.reduceAdd, Nat.reduceSub, Nat.reduceMul, Int.reduceLT, Int.reduceLE, Int.reduceEq, Int.reduceNeg, X67_call ha, X67_call hb, h, Bool.true_and]
  done
@[go_sem] theorem X69_call {f g : SlF} {a b : Rows} {i j : Int} (ha : RowsFit a) (hb : RowsFit b) {Q : Post3} {k : List Item} {os : List AOper} {d : Option Nat} {e : Env} {σ : Sto} : CallK T Q k os d e σ true i_X69 [rowsA f a, rowsA g b, onA i j] ↔ Run T Q (.ops os :: k) (put e d (.bool (fits a b i j))) σ := X69_spec ha hb

theorem X22_spec {f g : SlF} {x y : List Val} {i j : Int} (hi : 0 ≤ i ∧ i < x.length) (hj : 0 ≤ j ∧ j < y.length) {lv : List Nat} {σ : Sto} {R : Post} : Cw T true i_X22 [rowA f x, rowA g y, onA i j] lv σ R ↔ R (.bool (partP x i j (g, y))) σ := by
 refine cw_intro T_X22 (by simp only [go_sem]) (by simp) ?_; rw [run_unfold X22.main.eq_1]
 have a1 := fun {σ : Sto} => @iaddrV_int' 3 f Val (fun v => .agg [.int .i64 v.k, .int .i64 v.i, .str v.s]) x .i64 i σ hi
 have a2 := fun {σ : Sto} => @iaddrV_int' 3 g Val (fun v => .agg [.int .i64 v.k, .int .i64 v.i, .str v.s]) y .i64 j σ hj
 simp only [colN_get hi] at a1
 simp only [colN_get hj] at a2
 unfold partP
 by_cases h1 : (colN x i).k = 0
 ·simp (maxSteps := 2000000) only [go_sem, ↓reduceIte, Nat.reduceLT, Nat.reduceEqDiff, Nat.reduceLeDiff, Nat.reduceAdd, Nat.reduceSub, Nat.reduceMul, Int.reduceLT, Int.reduceLE, Int.reduceEq, Int.reduceNeg, a1, a2, h1, decide_true, Bool.not_true, Bool.false_and]
  done
 ·have h1' : decide ((colN x i).k = 0) = false := decide_eq_false h1
  rw [h1']
  simp (maxSteps := 2000000) only [go_sem, ↓reduceIte, Nat.reduceLT, Nat.reduceEqDiff, Nat.reduceLeDiff, Nat.reduceAdd, Nat.reduceSub, Nat.reduceMul, Int.reduceLT, Int.reduceLE, Int.reduceEq, Int.reduceNeg, a1, a2, h1, val_eta, Bool.not_false, Bool.true_and]
  done
@[go_sem] theorem X22_call {f g : SlF} {x y : List Val} {i j : Int} (hi : 0 ≤ i ∧ i < x.length) (hj : 0 ≤ j ∧ j < y.length) {Q : Post3} {k : List Item} {os : List AOper} {d : Option Nat} {e : Env} {σ : Sto} : CallK T Q k os d e σ true i_X22 [rowA f x, rowA g y, onA i j] ↔ Run T Q (.ops os :: k) (put e d (.bool (partP x i j (g, y)))) σ := X22_spec hi hj


theorem appF_row {o : Nat} {f : SlF} {x y : List Val} {σ : Sto} (hσ : σ[o]? = some (rowO x)) (hb : x.length + y.length ≤ 4000000) : appendFV 3 32 (refV o x) (rowA f y) σ = some (rowA .lst (x ++ y), σ.set o .dead) := by
 have hr : rowOf σ (rowA f y) = some (y.length, cellsV y) := rowOf_structs
 have hl := cellsV_len x
 have hl2 := cellsV_len y
 have h1 : (cellsV y).all AVal.one = true := all_one_flat (fun _ => rfl) y
 have hp : AVal.pures (cellsV x ++ cellsV y) = true := by rw [← List.flatMap_append]; exact cellsV_pure
 simp only [appendFV, hr, hσ]
 rw [if_pos ⟨hl2, by decide, h1, hl, trivial, trivial, trivial, by simp only [maxBytes]; omega, hp⟩]
 have hc := rowA_chunk (r := x ++ y)
 rw [List.length_append] at hc
 have ee : cellsV x ++ cellsV y = cellsV (x ++ y) := (List.flatMap_append ..).symm
 rw [ee, hc]

def refR (L : List (List Val)) : Rs := if L.length ≤ 4096 then ⟨.lst, lstR L, 0⟩ else bad 2
def nestIn (a b : Rows) (i j : Int) : Rs := if fits a b i j = true then refR (joinL a b i j (-1)) else bad 1
abbrev nS (i j : Int) (D : List (List Val)) : Sto := [.cells false [.int .i64 i, .int .i64 j], .cells false [.nils, .int .i64 0], rowsSt D]
theorem nest_inner {f g : SlF} {a b : Rows} {i j : Int} (h : JoinOk a b i j) {p : Nat} (hp : p < a.length) {D1 rest : List (List Val)}
  (next : ∀ D, D.length ≤ 4096 → D ++ rest = D1 → Run T (Res [.cell 6 true 2] (refR D1).g) (.inLoop X21.b0 :: X21.k0) (mkE 60 [(0, rowsA f a), (1, rowsA g b), (5, .ptr 0 2 0), (6, .ptr 1 2 0), (7, .ref 2 D.length 0 D.length 1), (8, .int .i64 ((p + 1 : Nat) : Int))]) (nS i j D)) :
  ∀ k, k ≤ b.length → ∀ D, D.length ≤ 4096 → D ++ (((b.drop k).filter (partP a[p].2 i j)).map fun q => a[p].2 ++ q.2) ++ rest = D1 →
  Run T (Res [.cell 6 true 2] (refR D1).g) (.inLoop X21.b1 :: X21.k1 3) (mkE 60 [(0, rowsA f a), (1, rowsA g b), (5, .ptr 0 2 0), (6, .ptr 1 2 0), (7, .ref 2 D.length 0 D.length 1), (8, .int .i64 (p : Int)), (9, .int .i64 k)]) (nS i j D) := by
 have ha1 := h.fa.1
 have hb1 := h.fb.1
 have hi := h.ca _ (List.getElem_mem hp)
 have w0 := wrap_succ (show p < 9223372036854775807 by omega)
 refine up_ind (fun D hD e => ?_) fun k hk ih D hD e => ?_
 ·rw [List.drop_length, List.filter_nil, List.map_nil, List.append_nil] at e
  have nx := next D hD e
  rw [run_round, run_unfold X21.b1.eq_1]
  simp (maxSteps := 2000000) only [go_sem, ↓reduceIte, Nat.reduceLT, Nat.reduceEqDiff, Nat.reduceLeDiff, Nat.reduceAdd, Nat.reduceSub, Nat.reduceMul, Int.reduceLT, Int.reduceLE, Int.reduceEq, Int.reduceNeg, run_unfold X21.c0.eq_1, run_unfold X21.c1.eq_1, run_unfold X21.c2.eq_1, X21.k0, X21.k1, X21.k1, Int.lt_irrefl, w0]
  exact ⟨v_names_map (fun _ => sv_pure) _, nx⟩
 ·rw [List.drop_eq_getElem_cons hk] at e
  have hj := h.cb _ (List.getElem_mem hk)
  have w1 := wrap_succ (show k < 9223372036854775807 by omega)
  have hc := @X22_call a[p].1 b[k].1 a[p].2 b[k].2 i j hi hj
  have l1 := h.la _ (List.getElem_mem hp)
  have l2 := h.lb _ (List.getElem_mem hk)
  rw [run_round, run_unfold X21.b1.eq_1]
  cases hpp : partP a[p].2 i j (b[k].1, b[k].2)
  ·rw [List.filter_cons_of_neg (by rw [show b[k] = (b[k].1, b[k].2) from rfl, hpp]; decide)] at e
   have ih' := ih D hD e
   simp (maxSteps := 2000000) only [go_sem, ↓reduceIte, Nat.reduceLT, Nat.reduceEqDiff, Nat.reduceLeDiff, Nat.reduceAdd, Nat.reduceSub, Nat.reduceMul, Int.reduceLT, Int.reduceLE, Int.reduceEq, Int.reduceNeg, hp, hk, hc, hpp, w1, run_unfold X21.c0.eq_1, run_unfold X21.c1.eq_1, run_unfold X21.c2.eq_1, X21.k0, X21.k1]
   exact ⟨v_names_map (fun _ => sv_pure) _, ih'⟩
  ·rw [List.filter_cons_of_pos (by rw [show b[k] = (b[k].1, b[k].2) from rfl, hpp])] at e
   by_cases h9 : D.length = 4096
   ·have h9' : ((D.length : Nat) : Int) = 4096 := by omega
    have hbig : ¬ D1.length ≤ 4096 := by
     rw [← e]; simp only [List.length_append, List.map_cons, List.length_cons]; omega
    have er : refR D1 = bad 2 := if_neg hbig
    rw [er]
    simp (maxSteps := 2000000) only [go_sem, ↓reduceIte, Nat.reduceLT, Nat.reduceEqDiff, Nat.reduceLeDiff, Nat.reduceAdd, Nat.reduceSub, Nat.reduceMul, Int.reduceLT, Int.reduceLE, Int.reduceEq, Int.reduceNeg, hp, hk, hc, hpp, w1, h9']
    rfl
   ·have h9' : ¬ ((D.length : Nat) : Int) = 4096 := by omega
    have ih' := ih (D ++ [a[p].2 ++ b[k].2]) (by simp only [List.length_append, List.length_cons, List.length_nil]; omega) (by rw [← e]; simp)
    simp (maxSteps := 2000000) only [go_sem, ↓reduceIte, Nat.reduceLT, Nat.reduceEqDiff, Nat.reduceLeDiff, Nat.reduceAdd, Nat.reduceSub, Nat.reduceMul, Int.reduceLT, Int.reduceLE, Int.reduceEq, Int.reduceNeg, hp, hk, hc, hpp, w1, h9']
    rw [app_row rfl l1]
    simp (maxSteps := 2000000) only [go_sem, ↓reduceIte, Nat.reduceLT, Nat.reduceEqDiff, Nat.reduceLeDiff, Nat.reduceAdd, Nat.reduceSub, Nat.reduceMul, Int.reduceLT, Int.reduceLE, Int.reduceEq, Int.reduceNeg, hk]
    rw [appF_row rfl (by omega)]
    simp (maxSteps := 2000000) only [go_sem, ↓reduceIte, Nat.reduceLT, Nat.reduceEqDiff, Nat.reduceLeDiff, Nat.reduceAdd, Nat.reduceSub, Nat.reduceMul, Int.reduceLT, Int.reduceLE, Int.reduceEq, Int.reduceNeg]
    rw [appendV_push (nl := false) (cs := D.map fun r => rowA .lst r) (v := rowA .lst (a[p].2 ++ b[k].2)) rfl rfl (by simp) sv_one' (by simp only [maxBytes]; omega)]
    have hm : D.map (fun r => rowA .lst r) ++ [rowA .lst (a[p].2 ++ b[k].2)] = (D ++ [a[p].2 ++ b[k].2]).map fun r => rowA .lst r := by simp
    rw [hm]
    simp only [nS, List.length_append, List.length_cons, List.length_nil, Nat.zero_add] at ih'
    simp (maxSteps := 2000000) only [go_sem, ↓reduceIte, Nat.reduceLT, Nat.reduceEqDiff, Nat.reduceLeDiff, Nat.reduceAdd, Nat.reduceSub, Nat.reduceMul, Int.reduceLT, Int.reduceLE, Int.reduceEq, Int.reduceNeg, w1, run_unfold X21.c0.eq_1, run_unfold X21.c1.eq_1, run_unfold X21.c2.eq_1, X21.k0, X21.k1]
    exact ⟨v_names_map (fun _ => sv_pure) _, ih'⟩
theorem nest_loop {f g : SlF} {a b : Rows} {i j : Int} (h : JoinOk a b i j) {D1 : List (List Val)} : ∀ p, p ≤ a.length → ∀ D, D.length ≤ 4096 → D ++ joinL (a.drop p) b i j (-1) = D1 →
  Run T (Res [.cell 6 true 2] (refR D1).g) (.inLoop X21.b0 :: X21.k0) (mkE 60 [(0, rowsA f a), (1, rowsA g b), (5, .ptr 0 2 0), (6, .ptr 1 2 0), (7, .ref 2 D.length 0 D.length 1), (8, .int .i64 (p : Int))]) (nS i j D) := by
 refine up_ind (fun D hD e => ?_) fun p hp ih D hD e => ?_
 ·rw [List.drop_length, joinL, List.flatMap_nil, List.append_nil] at e
  subst e
  have er : refR D = ⟨.lst, lstR D, 0⟩ := if_pos hD
  rw [er]
  rw [run_round, run_unfold X21.b0.eq_1]
  simp (maxSteps := 2000000) only [go_sem, ↓reduceIte, Nat.reduceLT, Nat.reduceEqDiff, Nat.reduceLeDiff, Nat.reduceAdd, Nat.reduceSub, Nat.reduceMul, Int.reduceLT, Int.reduceLE, Int.reduceEq, Int.reduceNeg, run_unfold X21.c0.eq_1, run_unfold X21.c1.eq_1, run_unfold X21.c2.eq_1, X21.k0, X21.k1, Int.lt_irrefl]
  rw [snap_rows (n := 61) (o := 2) (X := D) rfl]
  rfl
 ·rw [List.drop_eq_getElem_cons hp, joinL, List.flatMap_cons, jrow_neg, ← List.append_assoc] at e
  have hin := nest_inner (f := f) (g := g) h hp (D1 := D1) (rest := joinL (a.drop (p + 1)) b i j (-1)) (fun D' h1 h2 => ih D' h1 h2) 0 (by omega) D hD (by rw [List.drop_zero]; exact e)
  rw [run_round, run_unfold X21.b0.eq_1]
  simp (maxSteps := 2000000) only [go_sem, ↓reduceIte, Nat.reduceLT, Nat.reduceEqDiff, Nat.reduceLeDiff, Nat.reduceAdd, Nat.reduceSub, Nat.reduceMul, Int.reduceLT, Int.reduceLE, Int.reduceEq, Int.reduceNeg, hp, run_unfold X21.c0.eq_1, run_unfold X21.c1.eq_1, run_unfold X21.c2.eq_1, X21.k0, X21.k1]
  exact hin
theorem X21_spec {f g : SlF} {a b : Rows} {i j : Int} (h : Gok a b) {lv : List Nat} {σ : Sto} {R : Post} : Cw T true i_X21 [rowsA f a, rowsA g b, onA i j] lv σ R ↔ R ((nestIn a b i j).g) σ := by
 refine cw_intro T_X21 (by simp only [go_sem]) (by simp) ?_; rw [run_unfold X21.main.eq_1]
 cases hf : fits a b i j
 ·have e : nestIn a b i j = bad 1 := by simp [nestIn, hf]
  rw [e]
  simp (maxSteps := 2000000) only [go_sem, ↓reduceIte, Nat.reduceLT, Nat.reduceEqDiff, Nat.reduceLeDiff, Nat.reduceAdd, Nat.reduceSub, Nat.reduceMul, Int.reduceLT, Int.reduceLE, Int.reduceEq, Int.reduceNeg, X69_call h.fa h.fb, hf, bad]
  rfl
 ·have hk := h.ok hf
  have e : nestIn a b i j = refR (joinL a b i j (-1)) := by simp [nestIn, hf]
  rw [e]
  have hl := nest_loop (f := f) (g := g) hk 0 (by omega) [] (by simp) rfl
  simp (maxSteps := 2000000) only [go_sem, ↓reduceIte, Nat.reduceLT, Nat.reduceEqDiff, Nat.reduceLeDiff, Nat.reduceAdd, Nat.reduceSub, Nat.reduceMul, Int.reduceLT, Int.reduceLE, Int.reduceEq, Int.reduceNeg, X69_call h.fa h.fb, hf]
  exact hl
@[go_sem] theorem X21_call {f g : SlF} {a b : Rows} {i j : Int} (h : Gok a b) {Q : Post3} {k : List Item} {os : List AOper} {d : Option Nat} {e : Env} {σ : Sto} : CallK T Q k os d e σ true i_X21 [rowsA f a, rowsA g b, onA i j] ↔ Run T Q (.ops os :: k) (put e d ((nestIn a b i j).g)) σ := X21_spec h

end Go.Abs.B
/- Walks of chapter 40: the reference's Merge, Semi, Anti. -/
set_option linter.unusedSimpArgs false
set_option linter.unusedVariables false
set_option maxRecDepth 100000
set_option maxHeartbeats 4000000
namespace Go.Abs.B
open Go Go.Abs

theorem partner_loop {f g : SlF} {x : List Val} {b : Rows} {i j : Int} (hb : RowsFit b) (hi : 0 ≤ i ∧ i < x.length) (hj : AllCol b j) : ∀ k, k ≤ b.length →
  Run T (Res [.tmp 6] (.bool ((b.drop k).any (partP x i j)))) (.inLoop X28.b0 :: X28.k0) (mkE 21 [(0, rowA f x), (1, rowsA g b), (5, .ptr 0 2 0), (7, .int .i64 k)]) [.cells false [.int .i64 i, .int .i64 j]] := by
 have hb1 := hb.1
 refine up_ind ?_ fun k hk ih => ?_
 ·rw [run_round, run_unfold X28.b0.eq_1]
  simp (maxSteps := 2000000) only [go_sem, ↓reduceIte, Nat.reduceLT, Nat.reduceEqDiff, Nat.reduceLeDiff, Nat.reduceAdd, Nat.reduceSub, Nat.reduceMul, Int.reduceLT, Int.reduceLE, Int.reduceEq, Int.reduceNeg, run_unfold X28.c0.eq_1, run_unfold X28.c1.eq_1, X28.k0, Int.lt_irrefl, List.drop_length, List.any_nil]
 ·rw [run_round, run_unfold X28.b0.eq_1]
  rw [List.drop_eq_getElem_cons hk, List.any_cons]
  have w1 := wrap_succ (show k < 9223372036854775807 by omega)
  have hc := @X22_call f b[k].1 x b[k].2 i j hi (hj _ (List.getElem_mem hk))
  cases hp : partP x i j (b[k].1, b[k].2)
  ·have hp' : partP x i j b[k] = false := hp
   rw [Bool.false_or]
   simp (maxSteps := 2000000) only [go_sem, ↓reduceIte, Nat.reduceLT, Nat.reduceEqDiff, Nat.reduceLeDiff, Nat.reduceAdd, Nat.reduceSub, Nat.reduceMul, Int.reduceLT, Int.reduceLE, Int.reduceEq, Int.reduceNeg, hk, hc, hp, w1, run_unfold X28.c0.eq_1, run_unfold X28.c1.eq_1, X28.k0]
   exact ih
  ·have hp' : partP x i j b[k] = true := hp
   rw [Bool.true_or]
   simp (maxSteps := 2000000) only [go_sem, ↓reduceIte, Nat.reduceLT, Nat.reduceEqDiff, Nat.reduceLeDiff, Nat.reduceAdd, Nat.reduceSub, Nat.reduceMul, Int.reduceLT, Int.reduceLE, Int.reduceEq, Int.reduceNeg, hk, hc, hp]
   done
theorem X28_spec {f g : SlF} {x : List Val} {b : Rows} {i j : Int} (hb : RowsFit b) (hi : 0 ≤ i ∧ i < x.length) (hj : AllCol b j) {lv : List Nat} {σ : Sto} {R : Post} : Cw T true i_X28 [rowA f x, rowsA g b, onA i j] lv σ R ↔ R (.bool (hasP b i j x)) σ := by
 refine cw_intro T_X28 (by simp only [go_sem]) (by simp) ?_; rw [run_unfold X28.main.eq_1]
 have := partner_loop (f := f) (g := g) hb hi hj 0 (by omega)
 simp only [List.drop_zero] at this
 simp (maxSteps := 2000000) only [go_sem, ↓reduceIte, Nat.reduceLT, Nat.reduceEqDiff, Nat.reduceLeDiff, Nat.reduceAdd, Nat.reduceSub, Nat.reduceMul, Int.reduceLT, Int.reduceLE, Int.reduceEq, Int.reduceNeg]
 exact this
@[go_sem] theorem X28_call {f g : SlF} {x : List Val} {b : Rows} {i j : Int} (hb : RowsFit b) (hi : 0 ≤ i ∧ i < x.length) (hj : AllCol b j) {Q : Post3} {k : List Item} {os : List AOper} {d : Option Nat} {e : Env} {σ : Sto} : CallK T Q k os d e σ true i_X28 [rowA f x, rowsA g b, onA i j] ↔ Run T Q (.ops os :: k) (put e d (.bool (hasP b i j x))) σ := X28_spec hb hi hj


abbrev qS (i j : Int) (D : Rows) : Sto := [.cells false [.int .i64 i, .int .i64 j], .cells false [.nils, .int .i64 0], outR D, .cells false [.ref 2 D.length 0 D.length 1, .int .i64 0]]
theorem rsome_loop {f g : SlF} {a b : Rows} {i j : Int} {w : Bool} (h : JoinOk a b i j) : ∀ k, k ≤ a.length → ∀ D, D.length ≤ k →
  Run T (Res [.cell 8 true 2] (.agg [rowsA (flR (D ++ someR (a.drop k) b i j w)) (D ++ someR (a.drop k) b i j w), .int .i64 0])) (.inLoop X63.b0 :: X63.k0) (mkE 43 [(0, rowsA f a), (1, rowsA g b), (3, .bool w), (6, .ptr 0 2 0), (8, .ptr 1 2 0), (9, .ptr 3 2 0), (10, .int .i64 k)]) (qS i j D) := by
 have ha1 := h.fa.1
 refine up_ind (fun D hD => ?_) fun k hk ih D hD => ?_
 ·rw [run_round, run_unfold X63.b0.eq_1]
  simp (maxSteps := 2000000) only [go_sem, ↓reduceIte, Nat.reduceLT, Nat.reduceEqDiff, Nat.reduceLeDiff, Nat.reduceAdd, Nat.reduceSub, Nat.reduceMul, Int.reduceLT, Int.reduceLE, Int.reduceEq, Int.reduceNeg, run_unfold X63.c0.eq_1, run_unfold X63.c1.eq_1, run_unfold X63.c2.eq_1, X63.k0, List.drop_length, Int.lt_irrefl, List.filter_nil, List.append_nil]
  rw [snap_out (n := 61) (o := 2) (D := D) rfl]
  rfl
 ·rw [List.drop_eq_getElem_cons hk, someR, List.filter_cons]
  have w1 := wrap_succ (show k < 9223372036854775807 by omega)
  have hc := @X28_call a[k].1 g a[k].2 b i j h.fb (h.ca _ (List.getElem_mem hk)) h.cb
  have ih1 := ih D (by omega)
  have ih2 := ih (D ++ [a[k]]) (by simp only [List.length_append, List.length_cons, List.length_nil]; omega)
  simp only [qS, List.length_append, List.length_cons, List.length_nil, Nat.zero_add, List.append_assoc, List.cons_append, List.nil_append] at ih1 ih2
  rw [run_round, run_unfold X63.b0.eq_1]
  have ft : (false == true) = false := rfl
  have tf : (true == false) = false := rfl
  have ap : ∀ {A B C E : AObj}, E = .cells false [rowA a[k].1 a[k].2] → appendV 1 24 (.ref 2 D.length 0 D.length 1) (.ref 4 1 0 1 1) [A, B, outR D, C, E] = some (.ref 2 (D.length + 1) 0 (D.length + 1) 1, [A, B, outR (D ++ [a[k]]), C, E]) := by
   intro A B C E hE
   subst hE
   rw [appendV_push (nl := true) (nl' := false) (cs := D.map fun p => rowA p.1 p.2) (v := rowA a[k].1 a[k].2) rfl rfl (by simp) sv_one' (by simp only [maxBytes]; omega)]
   simp only [outR, List.map_append, List.map_cons, List.map_nil]
   rfl
  cases hp : hasP b i j a[k].2 <;> cases w
  ·simp (maxSteps := 2000000) only [go_sem, ↓reduceIte, Nat.reduceLT, Nat.reduceEqDiff, Nat.reduceLeDiff, Nat.reduceAdd, Nat.reduceSub, Nat.reduceMul, Int.reduceLT, Int.reduceLE, Int.reduceEq, Int.reduceNeg, hk, hc, hp, run_unfold X63.c0.eq_1, run_unfold X63.c1.eq_1, run_unfold X63.c2.eq_1, X63.k0, w1, ap rfl]
   exact ⟨v_names_map (fun _ => sv_pure) _, ih2⟩
  ·simp (maxSteps := 2000000) only [go_sem, ↓reduceIte, Nat.reduceLT, Nat.reduceEqDiff, Nat.reduceLeDiff, Nat.reduceAdd, Nat.reduceSub, Nat.reduceMul, Int.reduceLT, Int.reduceLE, Int.reduceEq, Int.reduceNeg, hk, hc, hp, run_unfold X63.c0.eq_1, run_unfold X63.c1.eq_1, run_unfold X63.c2.eq_1, X63.k0, w1, ft]
   exact ⟨v_names_map (fun _ => sv_pure) _, ih1⟩
  ·simp (maxSteps := 2000000) only [go_sem, ↓reduceIte, Nat.reduceLT, Nat.reduceEqDiff, Nat.reduceLeDiff, Nat.reduceAdd, Nat.reduceSub, Nat.reduceMul, Int.reduceLT, Int.reduceLE, Int.reduceEq, Int.reduceNeg, hk, hc, hp, run_unfold X63.c0.eq_1, run_unfold X63.c1.eq_1, run_unfold X63.c2.eq_1, X63.k0, w1, tf]
   exact ⟨v_names_map (fun _ => sv_pure) _, ih1⟩
  ·simp (maxSteps := 2000000) only [go_sem, ↓reduceIte, Nat.reduceLT, Nat.reduceEqDiff, Nat.reduceLeDiff, Nat.reduceAdd, Nat.reduceSub, Nat.reduceMul, Int.reduceLT, Int.reduceLE, Int.reduceEq, Int.reduceNeg, hk, hc, hp, run_unfold X63.c0.eq_1, run_unfold X63.c1.eq_1, run_unfold X63.c2.eq_1, X63.k0, w1, ap rfl]
   exact ⟨v_names_map (fun _ => sv_pure) _, ih2⟩
theorem X63_spec {f g : SlF} {a b : Rows} {i j : Int} {w : Bool} (h : Gok a b) {lv : List Nat} {σ : Sto} {R : Post} : Cw T true i_X63 [rowsA f a, rowsA g b, onA i j, .bool w] lv σ R ↔ R ((partR a b i j w).g) σ := by
 refine cw_intro T_X63 (by simp only [go_sem]) (by simp) ?_; rw [run_unfold X63.main.eq_1]
 cases hf : fits a b i j
 ·have e : partR a b i j w = bad 1 := by simp [partR, hf]
  rw [e]
  simp (maxSteps := 2000000) only [go_sem, ↓reduceIte, Nat.reduceLT, Nat.reduceEqDiff, Nat.reduceLeDiff, Nat.reduceAdd, Nat.reduceSub, Nat.reduceMul, Int.reduceLT, Int.reduceLE, Int.reduceEq, Int.reduceNeg, X69_call h.fa h.fb, hf, bad]
  rfl
 ·have hk := h.ok hf
  have e : partR a b i j w = ⟨flR (someR a b i j w), someR a b i j w, 0⟩ := by simp [partR, hf]
  rw [e]
  have hl := rsome_loop (f := f) (g := g) (w := w) hk 0 (by omega) [] (by simp)
  simp only [List.drop_zero, qS, List.nil_append, List.length_nil] at hl
  simp (maxSteps := 2000000) only [go_sem, ↓reduceIte, Nat.reduceLT, Nat.reduceEqDiff, Nat.reduceLeDiff, Nat.reduceAdd, Nat.reduceSub, Nat.reduceMul, Int.reduceLT, Int.reduceLE, Int.reduceEq, Int.reduceNeg, X69_call h.fa h.fb, hf]
  exact hl
@[go_sem] theorem X63_call {f g : SlF} {a b : Rows} {i j : Int} {w : Bool} (h : Gok a b) {Q : Post3} {k : List Item} {os : List AOper} {d : Option Nat} {e : Env} {σ : Sto} : CallK T Q k os d e σ true i_X63 [rowsA f a, rowsA g b, onA i j, .bool w] ↔ Run T Q (.ops os :: k) (put e d ((partR a b i j w).g)) σ := X63_spec h

theorem X38_spec {f g : SlF} {a b : Rows} {i j : Int} (h : Gok a b) {lv : List Nat} {σ : Sto} {R : Post} : Cw T true i_X38 [rowsA f a, rowsA g b, onA i j] lv σ R ↔ R ((partR a b i j true).g) σ := by
 refine cw_intro T_X38 (by simp only [go_sem]) (by simp) ?_; rw [run_unfold X38.main.eq_1]
 simp (maxSteps := 2000000) only [go_sem, ↓reduceIte, Nat.reduceLT, Nat.reduceEqDiff, Nat.reduceLeDiff, Nat.reduceAdd, Nat.reduceSub, Nat.reduceMul, Int.reduceLT, Int.reduceLE, Int.reduceEq, Int.reduceNeg, X63_call h]
 done
@[go_sem] theorem X38_call {f g : SlF} {a b : Rows} {i j : Int} (h : Gok a b) {Q : Post3} {k : List Item} {os : List AOper} {d : Option Nat} {e : Env} {σ : Sto} : CallK T Q k os d e σ true i_X38 [rowsA f a, rowsA g b, onA i j] ↔ Run T Q (.ops os :: k) (put e d ((partR a b i j true).g)) σ := X38_spec h

theorem X41_spec {f g : SlF} {a b : Rows} {i j : Int} (h : Gok a b) {lv : List Nat} {σ : Sto} {R : Post} : Cw T true i_X41 [rowsA f a, rowsA g b, onA i j] lv σ R ↔ R ((partR a b i j false).g) σ := by
 refine cw_intro T_X41 (by simp only [go_sem]) (by simp) ?_; rw [run_unfold X41.main.eq_1]
 simp (maxSteps := 2000000) only [go_sem, ↓reduceIte, Nat.reduceLT, Nat.reduceEqDiff, Nat.reduceLeDiff, Nat.reduceAdd, Nat.reduceSub, Nat.reduceMul, Int.reduceLT, Int.reduceLE, Int.reduceEq, Int.reduceNeg, X63_call h]
 done
@[go_sem] theorem X41_call {f g : SlF} {a b : Rows} {i j : Int} (h : Gok a b) {Q : Post3} {k : List Item} {os : List AOper} {d : Option Nat} {e : Env} {σ : Sto} : CallK T Q k os d e σ true i_X41 [rowsA f a, rowsA g b, onA i j] ↔ Run T Q (.ops os :: k) (put e d ((partR a b i j false).g)) σ := X41_spec h

def mergeIn (a b : Rows) (i j : Int) : Rs := if fits a b i j = true ∧ srt a i = true ∧ srt b j = true then refR (joinL a b i j (-1)) else bad 1
theorem X30_spec {f g : SlF} {a b : Rows} {i j : Int} (h : Gok a b) {lv : List Nat} {σ : Sto} {R : Post} : Cw T true i_X30 [rowsA f a, rowsA g b, onA i j] lv σ R ↔ R ((mergeIn a b i j).g) σ := by
 refine cw_intro T_X30 (by simp only [go_sem]) (by simp) ?_; rw [run_unfold X30.main.eq_1]
 cases hf : fits a b i j
 ·have e : mergeIn a b i j = bad 1 := by simp [mergeIn, hf]
  rw [e]
  simp (maxSteps := 2000000) only [go_sem, ↓reduceIte, Nat.reduceLT, Nat.reduceEqDiff, Nat.reduceLeDiff, Nat.reduceAdd, Nat.reduceSub, Nat.reduceMul, Int.reduceLT, Int.reduceLE, Int.reduceEq, Int.reduceNeg, X69_call h.fa h.fb, hf, bad]
  rfl
 ·have hk := h.ok hf
  have c1 := fun {Q k os d e σ} => @X37_call f a i hk.fa hk.ca Q k os d e σ
  have c2 := fun {Q k os d e σ} => @X37_call g b j hk.fb hk.cb Q k os d e σ
  cases ha : srt a i
  ·have e : mergeIn a b i j = bad 1 := by simp [mergeIn, hf, ha]
   rw [e]
   simp (maxSteps := 2000000) only [go_sem, ↓reduceIte, Nat.reduceLT, Nat.reduceEqDiff, Nat.reduceLeDiff, Nat.reduceAdd, Nat.reduceSub, Nat.reduceMul, Int.reduceLT, Int.reduceLE, Int.reduceEq, Int.reduceNeg, X69_call h.fa h.fb, hf, c1, ha, bad]
   rfl
  ·cases hb : srt b j
   ·have e : mergeIn a b i j = bad 1 := by simp [mergeIn, hf, ha, hb]
    rw [e]
    simp (maxSteps := 2000000) only [go_sem, ↓reduceIte, Nat.reduceLT, Nat.reduceEqDiff, Nat.reduceLeDiff, Nat.reduceAdd, Nat.reduceSub, Nat.reduceMul, Int.reduceLT, Int.reduceLE, Int.reduceEq, Int.reduceNeg, X69_call h.fa h.fb, hf, c1, c2, ha, hb, bad]
    rfl
   ·have e : mergeIn a b i j = nestIn a b i j := by simp [mergeIn, nestIn, hf, ha, hb]
    rw [e]
    simp (maxSteps := 2000000) only [go_sem, ↓reduceIte, Nat.reduceLT, Nat.reduceEqDiff, Nat.reduceLeDiff, Nat.reduceAdd, Nat.reduceSub, Nat.reduceMul, Int.reduceLT, Int.reduceLE, Int.reduceEq, Int.reduceNeg, X69_call h.fa h.fb, hf, c1, c2, ha, hb, X21_call h]
    done
@[go_sem] theorem X30_call {f g : SlF} {a b : Rows} {i j : Int} (h : Gok a b) {Q : Post3} {k : List Item} {os : List AOper} {d : Option Nat} {e : Env} {σ : Sto} : CallK T Q k os d e σ true i_X30 [rowsA f a, rowsA g b, onA i j] ↔ Run T Q (.ops os :: k) (put e d ((mergeIn a b i j).g)) σ := X30_spec h

end Go.Abs.B
/- Walks of chapter 40: the reference's Outer. -/
set_option linter.unusedSimpArgs false
set_option linter.unusedVariables false
set_option maxRecDepth 100000
set_option maxHeartbeats 4000000
namespace Go.Abs.B
open Go Go.Abs

theorem rowsA_lst {f : SlF} {L : List (List Val)} : rowsA f (lstR L) = sv 1 f (L.map fun r => rowA .lst r) := by
 rw [rowsA, lstR, List.map_map]; rfl
theorem slice_row1 {f : SlF} {a : Rows} {k : Nat} {σ : Sto} (hk : k < a.length) : sliceV 1 (rowsA f a) (some (.int .i64 (k : Int))) (some (.int .i64 ((k + 1 : Nat) : Int))) none σ = some (.list 1 [rowA a[k].1 a[k].2], σ) := by
 have e : rowsA f a = rowsA .lst a := by
  have : a.map (fun p => rowA p.1 p.2) ≠ [] := by intro h; have := congrArg List.length h; simp at this; subst this; simp at hk
  rw [rowsA, sv_ne this, rowsA, sv_lst]
 rw [e]
 exact (slice_sv_one (σ := σ) (g := fun p : SlF × List Val => rowA p.1 p.2) (l := a) (kd := .i64) (kd' := .i64) (k := 1) hk).trans (by rw [sv_lst]; rfl)
theorem nestIn_one {p : SlF × List Val} {b : Rows} {g : SlF} {i j : Int} (h : Gok [p] b) {Q : Post3} {k : List Item} {os : List AOper} {d : Option Nat} {e : Env} {σ : Sto} :
  CallK T Q k os d e σ true i_X21 [.list 1 [rowA p.1 p.2], rowsA g b, onA i j] ↔ Run T Q (.ops os :: k) (put e d (nestIn [p] b i j).g) σ := by
 have := X21_call (f := .lst) (g := g) h (i := i) (j := j) (Q := Q) (k := k) (os := os) (d := d) (e := e) (σ := σ)
 rwa [rowsA, sv_lst] at this
theorem JoinOk.one {a b : Rows} {i j : Int} (h : JoinOk a b i j) {p : SlF × List Val} (hp : p ∈ a) : JoinOk [p] b i j := by
 have hm : ∀ q ∈ [p], q ∈ a := fun q hq => by simp at hq; subst hq; exact hp
 exact ⟨⟨by simp, fun q hq => h.fa.2 q (hm q hq)⟩, h.fb, h.hi, h.hj, fun q hq => h.ca q (hm q hq), h.cb, fun q hq => h.la q (hm q hq), h.lb⟩
theorem JoinOk.gok {a b : Rows} {i j : Int} (h : JoinOk a b i j) : Gok a b := ⟨h.fa, h.fb, h.la, h.lb⟩
theorem JoinOk.fits {a b : Rows} {i j : Int} (h : JoinOk a b i j) : fits a b i j = true := by
 rw [B.fits, fit_all h.hi h.ca, fit_all h.hj h.cb]; rfl

theorem deep_row {n o : Nat} {σ : Sto} {r : List Val} (hσ : σ[o]? = some (rowO r)) : deepA (n + 2) σ (refV o r) = some (rowA .lst r, σ.set o .dead) := by
 have h0 : (refV o r).pure = false := by simp [AVal.names]
 have hl := cellsV_len r
 have hp : AVal.pures (cellsV r) = true := cellsV_pure
 rw [deepA, h0]
 simp only [Bool.false_eq_true, if_false, hσ, hl, Nat.zero_add, Nat.le_refl, true_and, and_self, if_true, deepL_pure hp, Bool.false_and, List.drop_zero, show (0 : Nat) < 3 by decide]
 rw [List.take_of_length_le (by rw [hl]; exact Nat.le_refl _), rowA_chunk]
theorem outer_loop {f g : SlF} {a b : Rows} {i j : Int} {n : Nat} (h : JoinOk a b i j) (hn : n ≤ 32) (hb4 : b.length ≤ 4096) {D1 : List (List Val)} : ∀ k, k ≤ a.length → ∀ D, D.length ≤ 4096 → D ++ joinL (a.drop k) b i j n = D1 →
  Run T (Res [.cell 8 true 2] (refR D1).g) (.inLoop X27.b0 :: X27.k0) (mkE 69 [(0, rowsA f a), (1, rowsA g b), (3, .int .i64 (n : Int)), (6, .ptr 0 2 0), (8, .ptr 1 2 0), (9, .ref 2 D.length 0 D.length 1), (10, .int .i64 (k : Int))]) (nS i j D) := by
 have ha1 := h.fa.1
 refine up_ind (fun D hD e => ?_) fun k hk ih D hD e => ?_
 ·rw [List.drop_length, joinL, List.flatMap_nil, List.append_nil] at e
  subst e
  have er : refR D = ⟨.lst, lstR D, 0⟩ := if_pos hD
  rw [er]
  rw [run_round, run_unfold X27.b0.eq_1]
  simp (maxSteps := 2000000) only [go_sem, ↓reduceIte, Nat.reduceLT, Nat.reduceEqDiff, Nat.reduceLeDiff, Nat.reduceAdd, Nat.reduceSub, Nat.reduceMul, Int.reduceLT, Int.reduceLE, Int.reduceEq, Int.reduceNeg, run_unfold X27.c0.eq_1, run_unfold X27.c1.eq_1, run_unfold X27.c2.eq_1, run_unfold X27.c3.eq_1, X27.k0, Int.lt_irrefl]
  rw [snap_rows (n := 61) (o := 2) (X := D) rfl]
  rfl
 ·have hm := List.getElem_mem hk
  have hone := JoinOk.one h hm
  have hx2 := h.la _ hm
  have w1 := wrap_succ (show k < 9223372036854775807 by omega)
  have cn := fun {Q : Post3} {kk : List Item} {os : List AOper} {d : Option Nat} {e : Env} {σ : Sto} => nestIn_one (g := g) (JoinOk.gok hone) (i := i) (j := j) (Q := Q) (k := kk) (os := os) (d := d) (e := e) (σ := σ)
  have so := fun {σ : Sto} => @slice_row1 f a k σ hk
  have s2 : joinL [a[k]] b i j (-1) = jrow (fun x => b.filter (partP x i j)) (-1) a[k].2 := by simp [joinL]
  have hl1 : (jrow (fun x => b.filter (partP x i j)) (-1) a[k].2).length ≤ 4096 := by
   rw [jrow_neg, List.length_map]
   exact Nat.le_trans (List.length_filter_le ..) hb4
  have hin : nestIn [a[k]] b i j = ⟨.lst, lstR (jrow (fun x => b.filter (partP x i j)) (-1) a[k].2), 0⟩ := by
   rw [nestIn, if_pos (JoinOk.fits hone), s2]; exact if_pos hl1
  rw [hin] at cn
  rw [List.drop_eq_getElem_cons hk, joinL, List.flatMap_cons, ← List.append_assoc] at e
  have ih' := ih (D ++ jrow (fun x => b.filter (partP x i j)) (n : Int) a[k].2)
  by_cases hp : b.filter (partP a[k].2 i j) = []
  ·have j1 : jrow (fun x => b.filter (partP x i j)) (-1) a[k].2 = [] := by rw [jrow_neg, hp]; rfl
   have j2 : jrow (fun x => b.filter (partP x i j)) (n : Int) a[k].2 = [a[k].2 ++ List.replicate n zV] := by
    unfold jrow
    rw [if_pos ⟨hp, by omega⟩, Int.toNat_natCast]
   rw [j1] at cn
   rw [j2] at e
   rw [run_round, run_unfold X27.b0.eq_1]
   simp (maxSteps := 2000000) only [go_sem, ↓reduceIte, Nat.reduceLT, Nat.reduceEqDiff, Nat.reduceLeDiff, Nat.reduceAdd, Nat.reduceSub, Nat.reduceMul, Int.reduceLT, Int.reduceLE, Int.reduceEq, Int.reduceNeg, hk, so, w1, cn]
   rw [app_row rfl (by omega)]
   simp (maxSteps := 2000000) only [go_sem, ↓reduceIte, Nat.reduceLT, Nat.reduceEqDiff, Nat.reduceLeDiff, Nat.reduceAdd, Nat.reduceSub, Nat.reduceMul, Int.reduceLT, Int.reduceLE, Int.reduceEq, Int.reduceNeg]
   rw [apz_row rfl (by omega)]
   simp (maxSteps := 2000000) only [go_sem, ↓reduceIte, Nat.reduceLT, Nat.reduceEqDiff, Nat.reduceLeDiff, Nat.reduceAdd, Nat.reduceSub, Nat.reduceMul, Int.reduceLT, Int.reduceLE, Int.reduceEq, Int.reduceNeg]
   rw [deep_row (n := 62) rfl]
   simp (maxSteps := 2000000) only [go_sem, ↓reduceIte, Nat.reduceLT, Nat.reduceEqDiff, Nat.reduceLeDiff, Nat.reduceAdd, Nat.reduceSub, Nat.reduceMul, Int.reduceLT, Int.reduceLE, Int.reduceEq, Int.reduceNeg, run_unfold X27.c0.eq_1, run_unfold X27.c1.eq_1, run_unfold X27.c2.eq_1, run_unfold X27.c3.eq_1, X27.k0]
   rw [appendV_push (nl := false) (cs := D.map fun r => rowA .lst r) (v := rowA .lst (a[k].2 ++ List.replicate n zV)) rfl rfl (by simp) sv_one' (by simp only [maxBytes]; omega)]
   have hm : D.map (fun r => rowA .lst r) ++ [rowA .lst (a[k].2 ++ List.replicate n zV)] = (D ++ [a[k].2 ++ List.replicate n zV]).map fun r => rowA .lst r := by simp
   rw [hm]
   have hle : (D ++ [a[k].2 ++ List.replicate n zV]).length = D.length + 1 := by simp
   by_cases h9 : D.length = 4096
   ·have h9' : (4096 : Int) < ((D.length + 1 : Nat) : Int) := by omega
    have hbig : ¬ D1.length ≤ 4096 := by
     rw [← e]; simp only [List.length_append, List.length_cons, List.length_nil]; omega
    have er : refR D1 = bad 2 := if_neg hbig
    rw [er]
    simp (maxSteps := 2000000) only [go_sem, ↓reduceIte, Nat.reduceLT, Nat.reduceEqDiff, Nat.reduceLeDiff, Nat.reduceAdd, Nat.reduceSub, Nat.reduceMul, Int.reduceLT, Int.reduceLE, Int.reduceEq, Int.reduceNeg, run_unfold X27.c0.eq_1, run_unfold X27.c1.eq_1, run_unfold X27.c2.eq_1, run_unfold X27.c3.eq_1, X27.k0, h9', hle]
    rfl
   ·have h9' : ¬ (4096 : Int) < ((D.length + 1 : Nat) : Int) := by omega
    rw [j2] at ih'
    have ih2 := ih' (by simp only [List.length_append, List.length_cons, List.length_nil]; omega) e
    simp only [nS, List.length_append, List.length_cons, List.length_nil, Nat.zero_add] at ih2
    simp (maxSteps := 2000000) only [go_sem, ↓reduceIte, Nat.reduceLT, Nat.reduceEqDiff, Nat.reduceLeDiff, Nat.reduceAdd, Nat.reduceSub, Nat.reduceMul, Int.reduceLT, Int.reduceLE, Int.reduceEq, Int.reduceNeg, run_unfold X27.c0.eq_1, run_unfold X27.c1.eq_1, run_unfold X27.c2.eq_1, run_unfold X27.c3.eq_1, X27.k0, h9', w1, hle]
    exact ⟨v_names_map (fun _ => sv_pure) _, ih2⟩
  ·have j1 : (jrow (fun x => b.filter (partP x i j)) (-1) a[k].2).length ≠ 0 := by
    rw [jrow_neg, List.length_map]
    intro e
    exact hp (List.eq_nil_of_length_eq_zero e)
   have j2 : jrow (fun x => b.filter (partP x i j)) (n : Int) a[k].2 = jrow (fun x => b.filter (partP x i j)) (-1) a[k].2 := by
    rw [jrow_neg]
    unfold jrow
    rw [if_neg (fun e => hp e.1)]
   rw [j2] at e ih'
   generalize jrow (fun x => b.filter (partP x i j)) (-1) a[k].2 = Lk at *
   have j3 : ¬ ((Lk.length : Nat) : Int) = 0 := by omega
   have ap := fun {σ : Sto} (hσ : σ[2]? = some (.cells false (D.map fun r => rowA .lst r))) => appendV_ones (σ := σ) (o := 2) (bytes := 24) (f := .lst) (g := fun r : List Val => rowA .lst r) (X := D) (Y := Lk) (fun _ => sv_one') hσ (by simp only [maxBytes]; omega)
   rw [run_round, run_unfold X27.b0.eq_1]
   simp (maxSteps := 2000000) only [go_sem, ↓reduceIte, Nat.reduceLT, Nat.reduceEqDiff, Nat.reduceLeDiff, Nat.reduceAdd, Nat.reduceSub, Nat.reduceMul, Int.reduceLT, Int.reduceLE, Int.reduceEq, Int.reduceNeg, hk, so, w1, cn, j3, run_unfold X27.c0.eq_1, run_unfold X27.c1.eq_1, run_unfold X27.c2.eq_1, run_unfold X27.c3.eq_1, X27.k0]
   rw [show ∀ σ, appendV 1 24 (.ref 2 D.length 0 D.length 1) (rowsA .lst (lstR Lk)) σ = appendV 1 24 (.ref 2 D.length 0 D.length 1) (sv 1 .lst (Lk.map fun r => rowA .lst r)) σ from fun σ => by rw [rowsA_lst], ap rfl]
   by_cases h9 : D.length + Lk.length ≤ 4096
   ·have h9' : ¬ (4096 : Int) < (((D ++ Lk).length : Nat) : Int) := by rw [List.length_append]; omega
    have ih2 := ih' (by rw [List.length_append]; exact h9) e
    simp (maxSteps := 2000000) only [go_sem, ↓reduceIte, Nat.reduceLT, Nat.reduceEqDiff, Nat.reduceLeDiff, Nat.reduceAdd, Nat.reduceSub, Nat.reduceMul, Int.reduceLT, Int.reduceLE, Int.reduceEq, Int.reduceNeg, h9', w1, run_unfold X27.c0.eq_1, run_unfold X27.c1.eq_1, run_unfold X27.c2.eq_1, run_unfold X27.c3.eq_1, X27.k0]
    exact ⟨v_names_map (fun _ => sv_pure) _, ih2⟩
   ·have h9' : (4096 : Int) < (((D ++ Lk).length : Nat) : Int) := by rw [List.length_append]; omega
    have hbig : ¬ D1.length ≤ 4096 := by
     rw [← e]; simp only [List.length_append]; omega
    have er : refR D1 = bad 2 := if_neg hbig
    rw [er]
    simp (maxSteps := 2000000) only [go_sem, ↓reduceIte, Nat.reduceLT, Nat.reduceEqDiff, Nat.reduceLeDiff, Nat.reduceAdd, Nat.reduceSub, Nat.reduceMul, Int.reduceLT, Int.reduceLE, Int.reduceEq, Int.reduceNeg, h9', w1]
    rfl
def outerIn (a b : Rows) (i j n : Int) : Rs := if fits a b i j = true ∧ 0 ≤ n ∧ n ≤ 32 then refR (joinL a b i j n) else bad 1
theorem X27_spec {f g : SlF} {a b : Rows} {i j n : Int} (h : Gok a b) (hb4 : b.length ≤ 4096) {lv : List Nat} {σ : Sto} {R : Post} : Cw T true i_X27 [rowsA f a, rowsA g b, onA i j, .int .i64 n] lv σ R ↔ R ((outerIn a b i j n).g) σ := by
 refine cw_intro T_X27 (by simp only [go_sem]) (by simp) ?_; rw [run_unfold X27.main.eq_1]
 cases hf : fits a b i j
 ·have e : outerIn a b i j n = bad 1 := by simp [outerIn, hf]
  rw [e]
  simp (maxSteps := 2000000) only [go_sem, ↓reduceIte, Nat.reduceLT, Nat.reduceEqDiff, Nat.reduceLeDiff, Nat.reduceAdd, Nat.reduceSub, Nat.reduceMul, Int.reduceLT, Int.reduceLE, Int.reduceEq, Int.reduceNeg, X69_call h.fa h.fb, hf, bad]
  rfl
 ·have hk := h.ok hf
  by_cases h0 : n < 0
  ·have e : outerIn a b i j n = bad 1 := by
    have : ¬ (0 ≤ n) := by omega
    simp [outerIn, this]
   rw [e]
   simp (maxSteps := 2000000) only [go_sem, ↓reduceIte, Nat.reduceLT, Nat.reduceEqDiff, Nat.reduceLeDiff, Nat.reduceAdd, Nat.reduceSub, Nat.reduceMul, Int.reduceLT, Int.reduceLE, Int.reduceEq, Int.reduceNeg, X69_call h.fa h.fb, hf, h0, bad]
   rfl
  ·by_cases h1 : 32 < n
   ·have e : outerIn a b i j n = bad 1 := by
     have : ¬ (n ≤ 32) := by omega
     simp [outerIn, this]
    rw [e]
    simp (maxSteps := 2000000) only [go_sem, ↓reduceIte, Nat.reduceLT, Nat.reduceEqDiff, Nat.reduceLeDiff, Nat.reduceAdd, Nat.reduceSub, Nat.reduceMul, Int.reduceLT, Int.reduceLE, Int.reduceEq, Int.reduceNeg, X69_call h.fa h.fb, hf, h0, h1, bad]
    rfl
   ·have e : outerIn a b i j n = refR (joinL a b i j n) := by
     have h2 : 0 ≤ n := by omega
     have h3 : n ≤ 32 := by omega
     simp [outerIn, hf, h2, h3]
    rw [e]
    obtain ⟨m, rfl⟩ := Int.eq_ofNat_of_zero_le (show 0 ≤ n by omega)
    have hl := outer_loop (f := f) (g := g) (n := m) hk (by omega) hb4 0 (by omega) [] (by simp) rfl
    simp (maxSteps := 2000000) only [go_sem, ↓reduceIte, Nat.reduceLT, Nat.reduceEqDiff, Nat.reduceLeDiff, Nat.reduceAdd, Nat.reduceSub, Nat.reduceMul, Int.reduceLT, Int.reduceLE, Int.reduceEq, Int.reduceNeg, X69_call h.fa h.fb, hf, h0, h1]
    exact hl
@[go_sem] theorem X27_call {f g : SlF} {a b : Rows} {i j n : Int} (h : Gok a b) (hb4 : b.length ≤ 4096) {Q : Post3} {k : List Item} {os : List AOper} {d : Option Nat} {e : Env} {σ : Sto} : CallK T Q k os d e σ true i_X27 [rowsA f a, rowsA g b, onA i j, .int .i64 n] ↔ Run T Q (.ops os :: k) (put e d ((outerIn a b i j n).g)) σ := X27_spec h hb4

end Go.Abs.B
/- Walks of chapter 40: what is small, and rows that are repeated. -/
set_option linter.unusedSimpArgs false
set_option linter.unusedVariables false
set_option maxRecDepth 100000
set_option maxHeartbeats 4000000
namespace Go.Abs.B
open Go Go.Abs

def wt (l : Rows) : Nat := (l.map fun p => 1 + p.2.length).sum
structure Cnt (l : Rows) : Prop where
 n : l.length ≤ 1152921504606846976
 w : ∀ p ∈ l, p.2.length ≤ 1152921504606846976
theorem wt_cons {p : SlF × List Val} {l : Rows} : wt (p :: l) = 1 + p.2.length + wt l := by simp only [wt, List.map_cons, List.sum_cons]
theorem wt_len : ∀ {l : Rows}, l.length ≤ wt l
 | [] => Nat.zero_le _
 | p :: l => by
  have := wt_len (l := l)
  rw [wt_cons, List.length_cons]; omega
theorem wt_row : ∀ {l : Rows} {p : SlF × List Val}, p ∈ l → p.2.length ≤ wt l
 | q :: l, p, h => by
  rw [wt_cons]
  rcases List.mem_cons.1 h with rfl | h
  ·omega
  ·have := wt_row h
   omega
theorem wadd {m n : Nat} (hm : m ≤ 300) (hn : n ≤ 1152921504606846976) : IntKind.i64.wrap ((m : Int) + IntKind.i64.wrap (1 + (n : Int))) = ((m + (1 + n) : Nat) : Int) := by
 rw [show (1 : Int) + (n : Int) = ((1 + n : Nat) : Int) by omega, wrap_nat (by omega), show (m : Int) + ((1 + n : Nat) : Int) = ((m + (1 + n) : Nat) : Int) by omega, wrap_nat (by omega)]

theorem small_two {f g : SlF} {a b : Rows} {i j : Int} {V : Bool} (hb : Cnt b) : ∀ k, k ≤ b.length → ∀ m : Nat, decide (m + wt (b.drop k) ≤ 300) = V →
  Run T (Res [.tmp 2] (.bool V)) (.inLoop X52.b1 :: X52.k1) (mkE 48 [(1, .ptr 0 4 0), (3, .int .i64 (m : Int)), (5, .int .i64 (k : Int))]) [.cells false [rowsA f a, rowsA g b, .int .i64 i, .int .i64 j]] := by
 have hb1 := hb.n
 refine up_ind (fun m e => ?_) fun k hk ih m e => ?_
 ·rw [List.drop_length, show wt [] = 0 from rfl, Nat.add_zero] at e
  subst e
  rw [run_round, run_unfold X52.b1.eq_1]
  by_cases h : (m : Int) ≤ 300
  ·have h' : m ≤ 300 := by omega
   simp (maxSteps := 2000000) only [go_sem, ↓reduceIte, Nat.reduceLT, Nat.reduceEqDiff, Nat.reduceLeDiff, Nat.reduceAdd, Nat.reduceSub, Nat.reduceMul, Int.reduceLT, Int.reduceLE, Int.reduceEq, Int.reduceNeg, run_unfold X52.c0.eq_1, run_unfold X52.c1.eq_1, X52.k0, X52.k1, Int.lt_irrefl, h, h', decide_true]
  ·have h' : ¬ m ≤ 300 := by omega
   simp (maxSteps := 2000000) only [go_sem, ↓reduceIte, Nat.reduceLT, Nat.reduceEqDiff, Nat.reduceLeDiff, Nat.reduceAdd, Nat.reduceSub, Nat.reduceMul, Int.reduceLT, Int.reduceLE, Int.reduceEq, Int.reduceNeg, run_unfold X52.c0.eq_1, run_unfold X52.c1.eq_1, X52.k0, X52.k1, Int.lt_irrefl, h, h', decide_false]
 ·rw [List.drop_eq_getElem_cons hk, wt_cons] at e
  have w1 := wrap_succ (show k < 9223372036854775807 by omega)
  by_cases h : (m : Int) ≤ 300
  ·have w2 := wadd (m := m) (n := b[k].2.length) (by omega) (hb.w _ (List.getElem_mem hk))
   have ih' := ih (m + (1 + b[k].2.length)) (by rw [← e]; congr 1; simp only [Nat.add_assoc])
   rw [run_round, run_unfold X52.b1.eq_1]
   simp (maxSteps := 2000000) only [go_sem, ↓reduceIte, Nat.reduceLT, Nat.reduceEqDiff, Nat.reduceLeDiff, Nat.reduceAdd, Nat.reduceSub, Nat.reduceMul, Int.reduceLT, Int.reduceLE, Int.reduceEq, Int.reduceNeg, hk, h, w1, w2, run_unfold X52.c0.eq_1, run_unfold X52.c1.eq_1, X52.k0, X52.k1]
   exact ih'
  ·have h' : ¬ (m + (1 + b[k].2.length + wt (b.drop (k + 1))) ≤ 300) := by omega
   rw [decide_eq_false h'] at e
   subst e
   rw [run_round, run_unfold X52.b1.eq_1]
   simp (maxSteps := 2000000) only [go_sem, ↓reduceIte, Nat.reduceLT, Nat.reduceEqDiff, Nat.reduceLeDiff, Nat.reduceAdd, Nat.reduceSub, Nat.reduceMul, Int.reduceLT, Int.reduceLE, Int.reduceEq, Int.reduceNeg, hk, h, run_unfold X52.c0.eq_1, run_unfold X52.c1.eq_1, X52.k0, X52.k1]
theorem small_one {f g : SlF} {a b : Rows} {i j : Int} {V : Bool} (ha : Cnt a) (hb : Cnt b) : ∀ k, k ≤ a.length → ∀ m : Nat, decide (m + wt (a.drop k) + wt b ≤ 300) = V →
  Run T (Res [.tmp 2] (.bool V)) (.inLoop X52.b0 :: X52.k0) (mkE 48 [(1, .ptr 0 4 0), (3, .int .i64 (m : Int)), (4, .int .i64 (k : Int))]) [.cells false [rowsA f a, rowsA g b, .int .i64 i, .int .i64 j]] := by
 have ha1 := ha.n
 refine up_ind (fun m e => ?_) fun k hk ih m e => ?_
 ·rw [List.drop_length, show wt [] = 0 from rfl, Nat.add_zero] at e
  have h2 := small_two (f := f) (g := g) (a := a) (i := i) (j := j) (V := V) hb 0 (by omega) m (by rw [List.drop_zero]; exact e)
  rw [run_round, run_unfold X52.b0.eq_1]
  simp (maxSteps := 2000000) only [go_sem, ↓reduceIte, Nat.reduceLT, Nat.reduceEqDiff, Nat.reduceLeDiff, Nat.reduceAdd, Nat.reduceSub, Nat.reduceMul, Int.reduceLT, Int.reduceLE, Int.reduceEq, Int.reduceNeg, run_unfold X52.c0.eq_1, run_unfold X52.c1.eq_1, X52.k0, X52.k1, Int.lt_irrefl]
  exact h2
 ·rw [List.drop_eq_getElem_cons hk, wt_cons] at e
  have w1 := wrap_succ (show k < 9223372036854775807 by omega)
  by_cases h : (m : Int) ≤ 300
  ·have w2 := wadd (m := m) (n := a[k].2.length) (by omega) (ha.w _ (List.getElem_mem hk))
   have ih' := ih (m + (1 + a[k].2.length)) (by rw [← e]; congr 1; simp only [Nat.add_assoc])
   rw [run_round, run_unfold X52.b0.eq_1]
   simp (maxSteps := 2000000) only [go_sem, ↓reduceIte, Nat.reduceLT, Nat.reduceEqDiff, Nat.reduceLeDiff, Nat.reduceAdd, Nat.reduceSub, Nat.reduceMul, Int.reduceLT, Int.reduceLE, Int.reduceEq, Int.reduceNeg, hk, h, w1, w2, run_unfold X52.c0.eq_1, run_unfold X52.c1.eq_1, X52.k0, X52.k1]
   exact ih'
  ·have h' : ¬ (m + (1 + a[k].2.length + wt (a.drop (k + 1))) + wt b ≤ 300) := by omega
   rw [decide_eq_false h'] at e
   subst e
   have h2 := small_two (f := f) (g := g) (a := a) (b := b) (i := i) (j := j) (V := false) hb 0 (by omega) m (decide_eq_false (by omega))
   rw [run_round, run_unfold X52.b0.eq_1]
   simp (maxSteps := 2000000) only [go_sem, ↓reduceIte, Nat.reduceLT, Nat.reduceEqDiff, Nat.reduceLeDiff, Nat.reduceAdd, Nat.reduceSub, Nat.reduceMul, Int.reduceLT, Int.reduceLE, Int.reduceEq, Int.reduceNeg, hk, h, run_unfold X52.c0.eq_1, run_unfold X52.c1.eq_1, X52.k0, X52.k1]
   exact h2
theorem X52_spec {f g : SlF} {a b : Rows} {i j : Int} (ha : Cnt a) (hb : Cnt b) {lv : List Nat} {σ : Sto} {R : Post} : Cw T true i_X52 [.agg [rowsA f a, rowsA g b, .int .i64 i, .int .i64 j]] lv σ R ↔ R (.bool (decide (wt a + wt b ≤ 300))) σ := by
 refine cw_intro T_X52 (by simp only [go_sem]) (by simp) ?_; rw [run_unfold X52.main.eq_1]
 have hl := small_one (f := f) (g := g) (i := i) (j := j) (V := decide (wt a + wt b ≤ 300)) ha hb 0 (by omega) 0 (by rw [List.drop_zero, Nat.zero_add])
 simp (maxSteps := 2000000) only [go_sem, ↓reduceIte, Nat.reduceLT, Nat.reduceEqDiff, Nat.reduceLeDiff, Nat.reduceAdd, Nat.reduceSub, Nat.reduceMul, Int.reduceLT, Int.reduceLE, Int.reduceEq, Int.reduceNeg]
 exact hl
@[go_sem] theorem X52_call {f g : SlF} {a b : Rows} {i j : Int} (ha : Cnt a) (hb : Cnt b) {Q : Post3} {k : List Item} {os : List AOper} {d : Option Nat} {e : Env} {σ : Sto} : CallK T Q k os d e σ true i_X52 [.agg [rowsA f a, rowsA g b, .int .i64 i, .int .i64 j]] ↔ Run T Q (.ops os :: k) (put e d (.bool (decide (wt a + wt b ≤ 300)))) σ := X52_spec ha hb


theorem repeated_loop {r : List Val} {n : Nat} (hn : n ≤ 1000) : ∀ k, k ≤ n →
  Run T (Res [.tmp 4] (rowsA .lst (lstR (List.replicate n r)))) (.inLoop X25.b0 :: X25.k0) (mkE 18 [(0, rowA .lst r), (1, .int .i64 (n : Int)), (5, .ref 0 k 0 k 1), (6, .int .i64 (k : Int))]) [rowsSt (List.replicate k r)] := by
 refine up_ind ?_ fun k hk ih => ?_
 ·rw [run_round, run_unfold X25.b0.eq_1]
  simp (maxSteps := 2000000) only [go_sem, ↓reduceIte, Nat.reduceLT, Nat.reduceEqDiff, Nat.reduceLeDiff, Nat.reduceAdd, Nat.reduceSub, Nat.reduceMul, Int.reduceLT, Int.reduceLE, Int.reduceEq, Int.reduceNeg, run_unfold X25.c0.eq_1, run_unfold X25.c1.eq_1, X25.k0, Int.lt_irrefl]
  have hs := snap_rows (n := 62) (o := 0) (X := List.replicate n r) (σ := [rowsSt (List.replicate n r)]) rfl
  rw [List.length_replicate] at hs
  rw [hs]
  done
 ·have w1 := wrap_succ (show k < 9223372036854775807 by omega)
  have hlt : ((k : Nat) : Int) < (n : Int) := by omega
  rw [run_round, run_unfold X25.b0.eq_1]
  simp (maxSteps := 2000000) only [go_sem, ↓reduceIte, Nat.reduceLT, Nat.reduceEqDiff, Nat.reduceLeDiff, Nat.reduceAdd, Nat.reduceSub, Nat.reduceMul, Int.reduceLT, Int.reduceLE, Int.reduceEq, Int.reduceNeg, hlt, w1]
  have ap : ∀ {E : AObj}, E = .cells false [rowA .lst r] → appendV 1 24 (.ref 0 k 0 k 1) (.ref 1 1 0 1 1) [rowsSt (List.replicate k r), E] = some (.ref 0 (k + 1) 0 (k + 1) 1, [rowsSt (List.replicate (k + 1) r), E]) := by
   intro E hE
   subst hE
   have hl : ((List.replicate k r).map fun r => rowA .lst r).length = k := by simp
   have h := appendV_push (σ := [rowsSt (List.replicate k r), .cells false [rowA .lst r]]) (n := k) (o := 0) (o' := 1) (nl := false) (nl' := false) (bytes := 24) (cs := (List.replicate k r).map fun r => rowA .lst r) (v := rowA .lst r) rfl rfl hl sv_one' (show (k + 1) * 24 ≤ maxBytes by simp only [maxBytes]; omega)
   rw [h]
   have e : (List.replicate k r).map (fun r => rowA .lst r) ++ [rowA .lst r] = (List.replicate (k + 1) r).map fun r => rowA .lst r := by
    rw [List.replicate_succ', List.map_append, List.map_cons, List.map_nil]
   rw [e]
   rfl
  rw [ap rfl]
  simp (maxSteps := 2000000) only [go_sem, ↓reduceIte, Nat.reduceLT, Nat.reduceEqDiff, Nat.reduceLeDiff, Nat.reduceAdd, Nat.reduceSub, Nat.reduceMul, Int.reduceLT, Int.reduceLE, Int.reduceEq, Int.reduceNeg, w1]
  exact ⟨v_names_map (fun _ => sv_pure) _, ih⟩
theorem X25_spec {r : List Val} {n : Nat} (hn : n ≤ 1000) {lv : List Nat} {σ : Sto} {R : Post} : Cw T true i_X25 [rowA .lst r, .int .i64 (n : Int)] lv σ R ↔ R (rowsA .lst (lstR (List.replicate n r))) σ := by
 refine cw_intro T_X25 (by simp only [go_sem]) (by simp) ?_; rw [run_unfold X25.main.eq_1]
 have hl := repeated_loop (r := r) hn 0 (by omega)
 simp (maxSteps := 2000000) only [go_sem, ↓reduceIte, Nat.reduceLT, Nat.reduceEqDiff, Nat.reduceLeDiff, Nat.reduceAdd, Nat.reduceSub, Nat.reduceMul, Int.reduceLT, Int.reduceLE, Int.reduceEq, Int.reduceNeg]
 exact hl
@[go_sem] theorem X25_call {r : List Val} {n : Nat} (hn : n ≤ 1000) {Q : Post3} {k : List Item} {os : List AOper} {d : Option Nat} {e : Env} {σ : Sto} : CallK T Q k os d e σ true i_X25 [rowA .lst r, .int .i64 (n : Int)] ↔ Run T Q (.ops os :: k) (put e d (rowsA .lst (lstR (List.replicate n r)))) σ := X25_spec hn

end Go.Abs.B
/- Walks of chapter 40: what the joins return is what the reference returns. -/
set_option linter.unusedSimpArgs false
set_option linter.unusedVariables false
set_option maxRecDepth 100000
set_option maxHeartbeats 4000000
namespace Go.Abs.B
open Go Go.Abs

theorem joinL_fit {a b : Rows} (h : Gok a b) {i j n : Int} (hn : n ≤ 1000) (hl : (joinL a b i j n).length ≤ 4096) : RowsFit (lstR (joinL a b i j n)) := by
 refine ⟨by rw [List.length_map]; omega, fun q hq => ?_⟩
 obtain ⟨_, hr⟩ := lstR_mem hq
 obtain ⟨p, hp, hr⟩ := List.mem_flatMap.1 hr
 have hp1 := h.la p hp
 have hp2 := (h.fa.2 p hp).2
 generalize q.2 = r at *
 unfold jrow at hr
 split at hr
 ·obtain rfl := List.mem_singleton.1 hr
  refine ⟨by show List.length _ < _; rw [List.length_append, List.length_replicate]; omega, fun v hv => ?_⟩
  rcases List.mem_append.1 hv with hv | hv
  ·exact hp2 v hv
  ·rw [(List.mem_replicate.1 hv).2]; exact tab_short 0
 ·obtain ⟨s, hs, rfl⟩ := List.mem_map.1 hr
  have hs1 := (List.mem_filter.1 hs).1
  have hs2 := h.lb s hs1
  refine ⟨by show List.length _ < _; rw [List.length_append]; omega, fun v hv => ?_⟩
  rcases List.mem_append.1 hv with hv | hv
  ·exact hp2 v hv
  ·exact (h.fb.2 s hs1).2 v hv
structure Sm (x y : Rs) : Prop where
 fx : RowsFit x.l
 fy : RowsFit y.l
 e : x.e = y.e
 l : x.l.map Prod.snd = y.l.map Prod.snd
theorem fit_nil : RowsFit [] := ⟨by decide, fun p hp => by simp at hp⟩
theorem Sm.bad (e : Int) : Sm (B.bad e) (B.bad e) := ⟨fit_nil, fit_nil, rfl, rfl⟩
theorem Sm.col {L : List (List Val)} (h : L.length ≤ 4096 → RowsFit (lstR L)) : Sm (colR L) (refR L) := by
 unfold colR refR
 by_cases hl : L.length ≤ 4096
 ·rw [if_pos hl, if_pos hl]; exact ⟨h hl, h hl, rfl, rfl⟩
 ·rw [if_neg hl, if_neg hl]; exact Sm.bad 2
theorem same_sm {x y : Rs} (h : Sm x y) {Q : Post3} {k : List Item} {os : List AOper} {d : Option Nat} {e : Env} {σ : Sto} : CallK T Q k os d e σ true i_X56 [x.g, y.g] ↔ Run T Q (.ops os :: k) (put e d (.bool true)) σ := by
 have hc := X56_call (f := x.f) (g := y.f) (ea := x.e) (eb := y.e) h.fx h.fy (Q := Q) (k := k) (os := os) (d := d) (e := e) (σ := σ)
 rw [decide_eq_true h.e, decide_eq_true h.l, Bool.true_and] at hc
 exact hc
theorem sm_nest {a b : Rows} {i j : Int} (h : Gok a b) : Sm (nestR a b i j) (nestIn a b i j) := by
 unfold nestR nestIn
 split
 ·exact Sm.col (joinL_fit h (by omega))
 ·exact Sm.bad 1
theorem sm_merge {a b : Rows} {i j : Int} (h : Gok a b) : Sm (mergeR a b i j) (mergeIn a b i j) := by
 unfold mergeR mergeIn
 split
 ·exact Sm.col (joinL_fit h (by omega))
 ·exact Sm.bad 1
theorem sm_outer {a b : Rows} {i j n : Int} (h : Gok a b) : Sm (outerR a b i j n) (outerIn a b i j n) := by
 unfold outerR outerIn
 split
 ·rename_i hc
  exact Sm.col (joinL_fit h (by omega))
 ·exact Sm.bad 1
theorem sm_part {a b : Rows} {i j : Int} {w : Bool} (h : Gok a b) : Sm (partR a b i j w) (partR a b i j w) := by
 have hf : RowsFit (partR a b i j w).l := by
  unfold partR
  split
  ·refine ⟨?_, fun p hp => h.fa.2 p (List.mem_filter.1 hp).1⟩
   exact Nat.le_trans (List.length_filter_le _ _) h.fa.1
  ·exact fit_nil
 exact ⟨hf, hf, rfl, rfl⟩
end Go.Abs.B
/- Walks of chapter 40: JoinMatchesReference. -/
set_option linter.unusedSimpArgs false
set_option linter.unusedVariables false
set_option maxRecDepth 100000
set_option maxHeartbeats 8000000
namespace Go.Abs.B
open Go Go.Abs

structure Md where
 fa : SlF
 a : Rows
 fb : SlF
 b : Rows
 i : Int
 j : Int
abbrev Md.c (m : Md) : List AVal := [rowsA m.fa m.a, rowsA m.fb m.b, .int .i64 m.i, .int .i64 m.j]
structure Md.Ok (m : Md) : Prop where
 gok : Gok m.a m.b
 emp : m.fb ≠ .emp
 n : m.b.length ≤ 4096
abbrev jS (z : Cas) (c y cs : List AVal) : Sto := [.cells false [bytesA z.fa z.a, bytesA z.fb z.b, .int .u8 (z.wa : Int), .int .u8 (z.wb : Int), .int .u8 (z.o0 : Int), .int .u8 (z.o1 : Int)],
 .cells false c, .cells false y, .cells false cs]

theorem jm_round {z : Cas} {n : Int} {c y cs : List AVal} (m : Md) (h : m.Ok) {q : Nat} (hq : q < 3) (hn : 4 ≤ (cs.drop (q * 4)).length) (hm : (cs.drop (q * 4)).take 4 = m.c) (h12 : cs.length = 12) (hu : (AVal.unders 4 c && (AVal.unders 4 y && AVal.unders 4 cs)) = true)
  (next : Run T (Res [.tmp 6] (.bool true)) (.inLoop X2.b0 :: X2.k0) (mkE 171 [(2, .int .i64 n), (3, .ptr 0 6 0), (7, .bool true), (9, .ref 3 12 0 3 4), (10, .int .i64 ((q + 1 : Nat) : Int))]) (jS z c y cs)) :
  Run T (Res [.tmp 6] (.bool true)) (.inLoop X2.b0 :: X2.k0) (mkE 171 [(2, .int .i64 n), (3, .ptr 0 6 0), (7, .bool true), (9, .ref 3 12 0 3 4), (10, .int .i64 (q : Int))]) (jS z c y cs) := by
 obtain ⟨fa, a, fb, b, i, j⟩ := m
 have hg := h.gok
 have hb := h.n
 have he := h.emp
 simp only [Md.c] at hm hg hb he
 have h3 : ((q : Nat) : Int) < 3 := by omega
 have w1 := wrap_succ (show q < 9223372036854775807 by omega)
 have k1 := fun {Q k os d e σ} => @same_sm _ _ (sm_nest (i := i) (j := j) hg) Q k os d e σ
 have k2 := fun {Q k os d e σ} => @same_sm _ _ (sm_merge (i := i) (j := j) hg) Q k os d e σ
 have k3 := fun {w : Bool} {Q k os d e σ} => @same_sm _ _ (sm_part (i := i) (j := j) (w := w) hg) Q k os d e σ
 have k4 := fun {n : Int} {Q k os d e σ} => @same_sm _ _ (sm_outer (i := i) (j := j) (n := n) hg) Q k os d e σ
 rw [run_round, run_unfold X2.b0.eq_1]
 simp (maxSteps := 2000000) only [go_sem, ↓reduceIte, Nat.reduceLT, Nat.reduceEqDiff, Nat.reduceLeDiff, Nat.reduceAdd, Nat.reduceSub, Nat.reduceMul, Int.reduceLT, Int.reduceLE, Int.reduceEq, Int.reduceNeg, h3, hq, hn, hm]
 simp (maxSteps := 2000000) only [go_sem, ↓reduceIte, Nat.reduceLT, Nat.reduceEqDiff, Nat.reduceLeDiff, Nat.reduceAdd, Nat.reduceSub, Nat.reduceMul, Int.reduceLT, Int.reduceLE, Int.reduceEq, Int.reduceNeg, X36_call hg, X58_call hg, X39_call he hg, X55_call hg, X61_call hg, X49_call hg, X21_call hg, X30_call hg, X38_call hg, X41_call hg, X27_call hg hb, k1, k2, k3, k4, w1, h12, run_unfold X2.c0.eq_1, run_unfold X2.c1.eq_1, X2.k0]
 exact ⟨hu, next⟩
theorem many_gok {m n : Nat} (hm : m ≤ 1000) (hn : n ≤ 1000) : Gok (lstR (List.replicate m [numV 1])) (lstR (List.replicate n [numV 1])) := by
 have key : ∀ k ≤ 1000, RowsFit (lstR (List.replicate k [numV 1])) ∧ ∀ p ∈ lstR (List.replicate k [numV 1]), p.2.length ≤ 1000000 := by
  intro k hk
  have h1 : ∀ p ∈ lstR (List.replicate k [numV 1]), p.2 = [numV 1] := fun p hp => (List.mem_replicate.1 (lstR_mem hp).2).2
  refine ⟨⟨by rw [List.length_map, List.length_replicate]; omega, fun p hp => ?_⟩, fun p hp => by rw [h1 p hp]; decide⟩
  rw [h1 p hp]
  refine ⟨by show List.length _ < _; decide, fun v hv => ?_⟩
  rw [List.mem_singleton.1 hv]
  exact tab_short 2
 exact ⟨(key m hm).1, (key n hn).1, (key m hm).2, (key n hn).2⟩
theorem small_gok {a b : Rows} (sa : ∀ p ∈ a, ∀ v ∈ p.2, Short v) (sb : ∀ p ∈ b, ∀ v ∈ p.2, Short v) (h : wt a + wt b ≤ 300) : Gok a b := by
 have la := wt_len (l := a)
 have lb := wt_len (l := b)
 refine ⟨⟨by omega, fun p hp => ⟨?_, sa p hp⟩⟩, ⟨by omega, fun p hp => ⟨?_, sb p hp⟩⟩, fun p hp => ?_, fun p hp => ?_⟩
 ·have := wt_row hp
  show p.2.length < _; omega
 ·have := wt_row hp
  show p.2.length < _; omega
 ·have := wt_row hp; omega
 ·have := wt_row hp; omega
theorem X2_spec {z : Cas} {fa fb : SlF} {a b : Rows} {i j n : Int} (hz : z.Ok) (ha : Cnt a) (hb : Cnt b) (sa : ∀ p ∈ a, ∀ v ∈ p.2, Short v) (sb : ∀ p ∈ b, ∀ v ∈ p.2, Short v) (he : fb ≠ .emp) {lv : List Nat} {σ : Sto} {R : Post} : Cw T true i_X2 [z.v, .agg [rowsA fa a, rowsA fb b, .int .i64 i, .int .i64 j], .int .i64 n] lv σ R ↔ R (.bool true) σ := by
 refine cw_intro T_X2 (by simp only [go_sem]) (by simp) ?_; rw [run_unfold X2.main.eq_1]
 by_cases hs : wt a + wt b ≤ 300
 ·have h2 := z.two
  have hmade := fun {Q : Post3} {k : List Item} {os : List AOper} {d : Option Nat} {e : Env} {σ : Sto} => X62_call (z := z) hz (Q := Q) (k := k) (os := os) (d := d) (e := e) (σ := σ)
  generalize z.A = A at h2 hmade
  generalize z.B = B at h2 hmade
  generalize z.i = I at h2 hmade
  generalize z.j = J at h2 hmade
  have hd : decide (wt a + wt b ≤ 300) = true := decide_eq_true hs
  have hw : IntKind.i64.wrap (50 + IntKind.i64.wrap ((z.wa : Int).tmod 30)) = ((50 + z.wa % 30 : Nat) : Int) := by
   have h3 : (z.wa : Int).tmod 30 = ((z.wa % 30 : Nat) : Int) := rfl
   rw [h3, wrap_nat (by omega), show (50 : Int) + ((z.wa % 30 : Nat) : Int) = ((50 + z.wa % 30 : Nat) : Int) by omega, wrap_nat (by omega)]
  have c1 := fun {Q : Post3} {k : List Item} {os : List AOper} {d : Option Nat} {e : Env} {σ : Sto} => X25_call (r := [numV 1]) (n := 50 + z.wa % 30) (by omega) (Q := Q) (k := k) (os := os) (d := d) (e := e) (σ := σ)
  have c2 := fun {Q : Post3} {k : List Item} {os : List AOper} {d : Option Nat} {e : Env} {σ : Sto} => X25_call (r := [numV 1]) (n := 70) (by omega) (Q := Q) (k := k) (os := os) (d := d) (e := e) (σ := σ)
  have g3 := many_gok (m := 50 + z.wa % 30) (n := 70) (by omega) (by omega)
  have n3 : (lstR (List.replicate 70 [numV 1])).length ≤ 4096 := by rw [List.length_map, List.length_replicate]; omega
  generalize lstR (List.replicate (50 + z.wa % 30) [numV 1]) = A3 at c1 g3
  generalize lstR (List.replicate 70 [numV 1]) = B3 at c2 g3 n3
  have r1 := jm_round (z := z) (n := n) (c := [rowsA fa a, rowsA fb b, .int .i64 i, .int .i64 j]) (y := [rowsA .lst A3, rowsA .lst B3, .int .i64 0, .int .i64 0])
   (cs := [rowsA .lst A, rowsA .lst B, .int .i64 I, .int .i64 J, rowsA fa a, rowsA fb b, .int .i64 i, .int .i64 j, rowsA .lst A3, rowsA .lst B3, .int .i64 0, .int .i64 0])
  have hu : (AVal.unders 4 [rowsA fa a, rowsA fb b, .int .i64 i, .int .i64 j] && (AVal.unders 4 [rowsA .lst A3, rowsA .lst B3, .int .i64 0, .int .i64 0] && AVal.unders 4 [rowsA .lst A, rowsA .lst B, .int .i64 I, .int .i64 J, rowsA fa a, rowsA fb b, .int .i64 i, .int .i64 j, rowsA .lst A3, rowsA .lst B3, .int .i64 0, .int .i64 0])) = true := by simp (maxSteps := 2000000) only [go_sem, ↓reduceIte, Nat.reduceLT, Nat.reduceEqDiff, Nat.reduceLeDiff, Nat.reduceAdd, Nat.reduceSub, Nat.reduceMul, Int.reduceLT, Int.reduceLE, Int.reduceEq, Int.reduceNeg]
  have e2 := r1 ⟨.lst, A3, .lst, B3, 0, 0⟩ ⟨g3, by simp, n3⟩ (q := 2) (by omega) (Nat.le_refl 4) rfl rfl hu
  have e1 := r1 ⟨fa, a, fb, b, i, j⟩ ⟨small_gok sa sb hs, he, by have := wt_len (l := b); show b.length ≤ 4096; omega⟩ (q := 1) (by omega) (show 4 ≤ 8 by omega) rfl rfl hu
  have e0 := r1 ⟨.lst, A, .lst, B, I, J⟩ ⟨JoinOk.gok h2.ok, by simp, by have := h2.hb.n; show B.length ≤ 4096; omega⟩ (q := 0) (by omega) (show 4 ≤ 12 by omega) rfl rfl hu
  simp (maxSteps := 2000000) only [go_sem, ↓reduceIte, Nat.reduceLT, Nat.reduceEqDiff, Nat.reduceLeDiff, Nat.reduceAdd, Nat.reduceSub, Nat.reduceMul, Int.reduceLT, Int.reduceLE, Int.reduceEq, Int.reduceNeg, X52_call ha hb, hd, hmade, hw]
  refine c1.2 ?_
  simp (maxSteps := 2000000) only [go_sem, ↓reduceIte, Nat.reduceLT, Nat.reduceEqDiff, Nat.reduceLeDiff, Nat.reduceAdd, Nat.reduceSub, Nat.reduceMul, Int.reduceLT, Int.reduceLE, Int.reduceEq, Int.reduceNeg]
  refine c2.2 ?_
  simp (maxSteps := 2000000) only [go_sem, ↓reduceIte, Nat.reduceLT, Nat.reduceEqDiff, Nat.reduceLeDiff, Nat.reduceAdd, Nat.reduceSub, Nat.reduceMul, Int.reduceLT, Int.reduceLE, Int.reduceEq, Int.reduceNeg, hmade]
  refine e0 (e1 (e2 ?_))
  rw [run_round, run_unfold X2.b0.eq_1]
  simp (maxSteps := 2000000) only [go_sem, ↓reduceIte, Nat.reduceLT, Nat.reduceEqDiff, Nat.reduceLeDiff, Nat.reduceAdd, Nat.reduceSub, Nat.reduceMul, Int.reduceLT, Int.reduceLE, Int.reduceEq, Int.reduceNeg, run_unfold X2.c0.eq_1, run_unfold X2.c1.eq_1, X2.k0, Int.lt_irrefl]
 ·have hd : decide (wt a + wt b ≤ 300) = false := decide_eq_false hs
  simp (maxSteps := 2000000) only [go_sem, ↓reduceIte, Nat.reduceLT, Nat.reduceEqDiff, Nat.reduceLeDiff, Nat.reduceAdd, Nat.reduceSub, Nat.reduceMul, Int.reduceLT, Int.reduceLE, Int.reduceEq, Int.reduceNeg, X52_call ha hb, hd]
@[go_sem] theorem X2_call {z : Cas} {fa fb : SlF} {a b : Rows} {i j n : Int} (hz : z.Ok) (ha : Cnt a) (hb : Cnt b) (sa : ∀ p ∈ a, ∀ v ∈ p.2, Short v) (sb : ∀ p ∈ b, ∀ v ∈ p.2, Short v) (he : fb ≠ .emp) {Q : Post3} {k : List Item} {os : List AOper} {d : Option Nat} {e : Env} {σ : Sto} : CallK T Q k os d e σ true i_X2 [z.v, .agg [rowsA fa a, rowsA fb b, .int .i64 i, .int .i64 j], .int .i64 n] ↔ Run T Q (.ops os :: k) (put e d (.bool true)) σ := X2_spec hz ha hb sa sb he

end Go.Abs.B
