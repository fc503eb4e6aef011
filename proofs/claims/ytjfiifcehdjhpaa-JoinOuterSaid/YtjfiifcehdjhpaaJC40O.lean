/- Parts of the proof: C40O, C40W. -/
import Derived.Test.YtjfiifcehdjhpaaC40M
import Derived.Test.YtjfiifcehdjhpaaAbsVal2
set_option linter.all false
/- Walks of chapter 40: JoinPartners. -/
set_option linter.unusedSimpArgs false
set_option linter.unusedVariables false
set_option maxRecDepth 100000
set_option maxHeartbeats 8000000
namespace Go.Abs
open Go
attribute [local go_sem_proc] Nat.reduceLT Nat.reduceEqDiff Nat.reduceLeDiff Nat.reduceAdd Nat.reduceSub Nat.reduceMul Int.reduceLT Int.reduceLE Int.reduceEq Int.reduceNeg
attribute [local go_sem_proc ↓] reduceIte

theorem slice_sv_one {α : Type} {g : α → AVal} {l : List α} {kd kd' : IntKind} {k n : Nat} {σ : Sto} (h : n < l.length) : sliceV k (sv k .lst (l.map g)) (some (.int kd (n : Int))) (some (.int kd' ((n + 1 : Nat) : Int))) none σ = some (sv k .lst ([l[n]].map g), σ) := by
 rw [sv_lst, slice_mid (by omega) (by rw [List.length_map]; omega), sv_lst]
 congr 3
 rw [← List.map_take, ← List.map_drop]
 congr 1
 rw [List.take_succ_eq_append_getElem h, List.drop_append_of_le_length (by rw [List.length_take]; omega)]
 simp
theorem one_sub {α : Type} {l : List α} {n : Nat} (h : n < l.length) : [l[n]].Sublist l := by
 exact List.singleton_sublist.2 (List.getElem_mem h)
theorem one_len {p : SlF × List Val} {b : Rows} {i j : Int} : (0 : Int) < ((joinL [p] b i j (-1)).length : Nat) ↔ hasP b i j p.2 = true := by
 rw [join_one, List.length_map]
 cases h : hasP b i j p.2
 ·rw [has_nil.1 h]; simp
 ·have hn : b.filter (partP p.2 i j) ≠ [] := fun e => by rw [has_nil.2 e] at h; cases h
  have := List.length_pos_iff.2 hn
  exact ⟨fun _ => rfl, fun _ => by omega⟩

abbrev pS (z : Cas) (a b S U : Rows) (J : List (List Val)) (i j : Int) : Sto := [.cells false [bytesA z.fa z.a, bytesA z.fb z.b, .int .u8 (z.wa : Int), .int .u8 (z.wb : Int), .int .u8 (z.o0 : Int), .int .u8 (z.o1 : Int)],
 .cells false [rowsA .lst a, rowsA .lst b, .int .i64 i, .int .i64 j], .cells false [rowsA (flR S) S, .int .i64 0], .cells false [rowsA (flR U) U, .int .i64 0], .cells false [rowsA (flO J) (lstR J), .int .i64 0]]
abbrev pE (l : List (Nat × AVal)) : Env := mkE 205 ([(1, .ptr 0 6 0), (3, .bool true), (4, .ptr 1 4 0), (5, .ptr 2 2 0), (6, .ptr 3 2 0), (7, .ptr 4 2 0)] ++ l)

theorem semi_one {x : List Val} {b : Rows} {g : SlF} {m n : Nat} {i j : Int} (h : Two [(.lst, x)] b m n i j) {Q : Post3} {k : List Item} {os : List AOper} {d : Option Nat} {e : Env} {σ : Sto} :
  CallK T Q k os d e σ true i_X42 [.list 1 [rowA .lst x], rowsA g b, onA i j] ↔ Run T Q (.ops os :: k) (put e d (.agg [rowsA (flR (someR [(.lst, x)] b i j true)) (someR [(.lst, x)] b i j true), .int .i64 0])) σ := by
 have := X42_call (f := .lst) (g := g) h.ok (Q := Q) (k := k) (os := os) (d := d) (e := e) (σ := σ)
 rwa [rowsA, sv_lst] at this

theorem someR_one {x : List Val} {b : Rows} {i j : Int} (h : hasP b i j x = true) : someR [(.lst, x)] b i j true = [(.lst, x)] := by
 simp [someR, h]
theorem partners_rows {z : Cas} {a b : Rows} {i j : Int} (h : Two a b z.m z.n i j) : ∀ q, q ≤ (joinL a b i j (-1)).length →
  Run T (Res [.tmp 2] (.bool true)) (.inLoop X8.b1 :: X8.k1) (pE [(8, .int .i64 ((someR a b i j true).length : Nat)), (9, .int .i64 ((someR a b i j false).length : Nat)), (12, .int .i64 (z.m : Nat)), (13, .int .i64 q)]) (pS z a b (someR a b i j true) (someR a b i j false) (joinL a b i j (-1)) i j) := by
 have hlen := h.len
 refine up_ind ?_ fun q hq ih => ?_
 ·rw [run_round, run_unfold X8.b1.eq_1]
  simp (maxSteps := 2000000) only [go_sem, pE, List.cons_append, List.nil_append, run_unfold X8.c0.eq_1, run_unfold X8.c1.eq_1, run_unfold X8.c2.eq_1, run_unfold X8.c3.eq_1, X8.k0, X8.k1, Int.lt_irrefl]
  done
 ·rw [run_round, run_unfold X8.b1.eq_1]
  obtain ⟨p, hp, p2, hp2, e, hpart⟩ := join_mem (List.getElem_mem hq)
  have hpl := h.ha.w p hp
  have hpl2 := h.hb.w p2 hp2
  have m3 := h.hm
  have n3 := h.hn
  obtain ⟨fp, u⟩ := p
  obtain ⟨fq, v⟩ := p2
  simp only at hpl hpl2 e hpart
  generalize hr : (joinL a b i j (-1))[q] = r at e
  have hrl : r.length = z.m + z.n := by rw [e, List.length_append, hpl, hpl2]
  have hc := hpart
  simp only [partP, Bool.and_eq_true, Bool.not_eq_true', decide_eq_false_iff_not, decide_eq_true_eq] at hc
  have hi : 0 ≤ i ∧ i < r.length := ⟨h.i0, by have := h.im; omega⟩
  have hj : 0 ≤ (z.m : Int) + j ∧ (z.m : Int) + j < r.length := ⟨by have := h.j0; omega, by have := h.jn; omega⟩
  have ci : colN r i = colN u i := by
   have := h.im
   have := h.i0
   unfold colN; rw [e, List.getD_eq_getElem?_getD, List.getD_eq_getElem?_getD, List.getElem?_append_left (by omega)]
  have cj : colN r ((z.m : Int) + j) = colN v j := by
   have := h.jn
   have := h.j0
   unfold colN; rw [e, List.getD_eq_getElem?_getD, List.getD_eq_getElem?_getD, List.getElem?_append_right (by omega)]
   congr 2; omega
  have hk : ¬ (colN r i).k = 0 := by rw [ci]; exact hc.1
  have heq : decide (colN r i = colN r ((z.m : Int) + j)) = true := by rw [ci, cj]; exact decide_eq_true hc.2
  have htk : r.take z.m = u := by rw [e, ← hpl]; simp
  have hsemi : Two [(.lst, u)] b z.m z.n i j := ⟨⟨by simp, fun p hp => by simp at hp; subst hp; exact hpl, fun p hp => by simp at hp; subst hp; exact fun w hw => h.ha.s (fp, u) hp w hw⟩, h.hb, h.hm, h.hn, h.i0, h.j0, h.im, h.jn⟩
  have hhas : hasP b i j u = true := by rw [hasP, List.any_eq_true]; exact ⟨_, hp2, hpart⟩
  have hs1 := someR_one (b := b) (i := i) (j := j) hhas
  have a1 := fun {σ : Sto} => @iaddrV_int' 3 .lst Val (fun v => .agg [.int .i64 v.k, .int .i64 v.i, .str v.s]) r .i64 i σ hi
  have a2 := fun {σ : Sto} => @iaddrV_int' 3 .lst Val (fun v => .agg [.int .i64 v.k, .int .i64 v.i, .str v.s]) r .i64 ((z.m : Int) + j) σ hj
  have hg : (lstR (joinL a b i j (-1)))[q]'(by rw [List.length_map]; exact hq) = (.lst, r) := by rw [← hr]; exact List.getElem_map ..
  simp only [colN_get hi] at a1
  simp only [colN_get hj] at a2
  have hw : IntKind.i64.wrap (IntKind.i64.wrap ((z.m : Int) + 1) + IntKind.i64.wrap ((z.wb : Int).tmod 3)) = ((z.m + z.n : Nat) : Int) := by
   have h3 : (z.wb : Int).tmod 3 = ((z.wb % 3 : Nat) : Int) := rfl
   rw [h3, wrap_nat (by omega), wrap_succ (by omega), wrap_i64 (by omega) (by omega)]
   show _ = ((z.m + (1 + z.wb % 3) : Nat) : Int)
   omega
  have hw2 : IntKind.i64.wrap ((z.m : Int) + j) = (z.m : Int) + j := wrap_i64 (by have := h.j0; omega) (by have := h.jn; omega)
  have hq1 := wrap_succ (show q < 9223372036854775807 by omega)
  have st := fun {σ : Sto} => @slice_sv_take σ Val (fun v => .agg [.int .i64 v.k, .int .i64 v.i, .str v.s]) r .i64 3 z.m (by omega)
  have cs := fun {Q : Post3} {k : List Item} {os : List AOper} {d : Option Nat} {e : Env} {σ : Sto} => semi_one (g := .lst) hsemi (Q := Q) (k := k) (os := os) (d := d) (e := e) (σ := σ)
  simp (maxSteps := 2000000) only [go_sem, pE, List.cons_append, List.nil_append, hq, hg, hrl, hw, hw2, a1, a2, hk, heq, val_eta, st, htk, cs, hs1, hq1]
  simp only [pE, List.cons_append, List.nil_append] at ih
  exact ih

theorem nested_one {p : SlF × List Val} {b : Rows} {g : SlF} {m n : Nat} {i j : Int} (h : Two [p] b m n i j) {Q : Post3} {k : List Item} {os : List AOper} {d : Option Nat} {e : Env} {σ : Sto} :
  CallK T Q k os d e σ true i_X26 [.list 1 [rowA p.1 p.2], rowsA g b, onA i j] ↔ Run T Q (.ops os :: k) (put e d (.agg [rowsA (flO (joinL [p] b i j (-1))) (lstR (joinL [p] b i j (-1))), .int .i64 0])) σ := by
 have := X26_call (f := .lst) (g := g) h.ok h.len4 (Q := Q) (k := k) (os := os) (d := d) (e := e) (σ := σ)
 rwa [rowsA, sv_lst] at this
theorem drop_get {α : Type} {l r : List α} {x : Nat} {c : α} (h : l.drop x = c :: r) : ∃ hx : x < l.length, l[x] = c ∧ l.drop (x + 1) = r := by
 have hx : x < l.length := by
  have := congrArg List.length h
  simp only [List.length_drop, List.length_cons] at this; omega
 rw [List.drop_eq_getElem_cons hx] at h
 injection h with h1 h2
 exact ⟨hx, h1, h2⟩
theorem partners_all {z : Cas} {a b S U : Rows} {i j : Int} (hz : z.Ok) (h : Two a b z.m z.n i j) (hS : S = someR a b i j true) (hU : U = someR a b i j false) : ∀ k, k ≤ a.length → ∀ x y, x ≤ S.length → y ≤ U.length → S.drop x = someR (a.drop k) b i j true → U.drop y = someR (a.drop k) b i j false →
  Run T (Res [.tmp 2] (.bool true)) (.inLoop X8.b0 :: X8.k0) (pE [(8, .int .i64 x), (9, .int .i64 y), (10, .int .i64 k)]) (pS z a b S U (joinL a b i j (-1)) i j) := by
 have la := h.ha.n
 have hw := wid (w := z.wa)
 have hSl : S.length ≤ 20 := by rw [hS]; exact Nat.le_trans (List.length_filter_le ..) la
 have hUl : U.length ≤ 20 := by rw [hU]; exact Nat.le_trans (List.length_filter_le ..) la
 refine up_ind (fun x y hx hy h1 h2 => ?_) fun k hk ih x y hx hy h1 h2 => ?_
 ·have e1 : x = S.length := by
   have := congrArg List.length h1
   simp only [List.length_drop, List.drop_length, someR, List.filter_nil, List.length_nil] at this; omega
  have e2 : y = U.length := by
   have := congrArg List.length h2
   simp only [List.length_drop, List.drop_length, someR, List.filter_nil, List.length_nil] at this; omega
  subst e1 e2
  have hr := partners_rows h 0 (by omega)
  rw [← hS, ← hU] at hr
  simp only [pE, List.cons_append, List.nil_append] at hr
  rw [run_round, run_unfold X8.b0.eq_1]
  simp (maxSteps := 2000000) only [go_sem, pE, List.cons_append, List.nil_append, run_unfold X8.c0.eq_1, run_unfold X8.c1.eq_1, run_unfold X8.c2.eq_1, run_unfold X8.c3.eq_1, X8.k0, X8.k1, Int.lt_irrefl, hw]
  exact hr
 ·have hone := h.sub (one_sub hk) (List.Sublist.refl b)
  rw [List.drop_eq_getElem_cons hk] at h1 h2
  have w1 := wrap_succ (show k < 9223372036854775807 by omega)
  have w2 := wrap_succ (show x < 9223372036854775807 by omega)
  have w3 := wrap_succ (show y < 9223372036854775807 by omega)
  have cn := fun {Q : Post3} {kk : List Item} {os : List AOper} {d : Option Nat} {e : Env} {σ : Sto} => nested_one (g := .lst) hone (Q := Q) (k := kk) (os := os) (d := d) (e := e) (σ := σ)
  have hfit := (h.ha.fit h.hm).2 _ (List.getElem_mem hk)
  have hsame : ∀ {Q : Post3} {kk : List Item} {os : List AOper} {d : Option Nat} {e : Env} {σ : Sto}, CallK T Q kk os d e σ true i_X51 [rowA a[k].1 a[k].2, rowA a[k].1 a[k].2] ↔ Run T Q (.ops os :: kk) (put e d (.bool true)) σ := by
   intro Q kk os d e σ
   have := X51_call (f := a[k].1) (g := a[k].1) (a := a[k].2) (b := a[k].2) hfit.1 hfit.1 hfit.2 hfit.2 (Q := Q) (k := kk) (os := os) (d := d) (e := e) (σ := σ)
   rwa [decide_eq_true rfl] at this
  have so : ∀ {σ : Sto}, sliceV 1 (rowsA .lst a) (some (.int .i64 (k : Int))) (some (.int .i64 ((k + 1 : Nat) : Int))) none σ = some (.list 1 [rowA a[k].1 a[k].2], σ) := by
   intro σ
   exact (slice_sv_one (σ := σ) (g := fun p : SlF × List Val => rowA p.1 p.2) (l := a) (kd := .i64) (kd' := .i64) (k := 1) hk).trans (by rw [sv_lst]; rfl)
  rw [run_round, run_unfold X8.b0.eq_1]
  simp only [pE, List.cons_append, List.nil_append] at ih
  cases hp : hasP b i j a[k].2
  ·have hz0 : ¬ ((0 : Int) < ((joinL [a[k]] b i j (-1)).length : Nat)) := by rw [one_len, hp]; simp
   have hz1 : ((joinL [a[k]] b i j (-1)).length : Int) = 0 := by omega
   have h1' : S.drop x = someR (a.drop (k + 1)) b i j true := by rw [h1, someR, List.filter_cons_of_neg (by rw [hp]; decide)]
   have h2' : U.drop y = a[k] :: someR (a.drop (k + 1)) b i j false := by rw [h2, someR, List.filter_cons_of_pos (by rw [hp]; decide)]
   obtain ⟨g1, g2, g3⟩ := drop_get h2'
   have ih' := ih x (y + 1) hx g1 h1' g3
   simp (maxSteps := 2000000) only [go_sem, pE, List.cons_append, List.nil_append, hk, so, w1, w3, cn, hz0, hz1, g1, g2, hsame, run_unfold X8.c0.eq_1, run_unfold X8.c1.eq_1, run_unfold X8.c2.eq_1, run_unfold X8.c3.eq_1, X8.k0, X8.k1]
   exact ih'
  ·have hz0 : ((0 : Int) < ((joinL [a[k]] b i j (-1)).length : Nat)) := one_len.2 hp
   have h2' : U.drop y = someR (a.drop (k + 1)) b i j false := by rw [h2, someR, List.filter_cons_of_neg (by rw [hp]; decide)]
   have h1' : S.drop x = a[k] :: someR (a.drop (k + 1)) b i j true := by rw [h1, someR, List.filter_cons_of_pos (by rw [hp]; decide)]
   obtain ⟨g1, g2, g3⟩ := drop_get h1'
   have ih' := ih (x + 1) y g1 hy g3 h2'
   simp (maxSteps := 2000000) only [go_sem, pE, List.cons_append, List.nil_append, hk, so, w1, w2, cn, hz0, g1, g2, hsame, run_unfold X8.c0.eq_1, run_unfold X8.c1.eq_1, run_unfold X8.c2.eq_1, run_unfold X8.c3.eq_1, X8.k0, X8.k1]
   exact ih'
theorem X8_spec {z : Cas} (h : z.Ok) {lv : List Nat} {σ : Sto} {R : Post} : Cw T true i_X8 [z.v] lv σ R ↔ R (.bool true) σ := by
 refine cw_intro T_X8 (by simp only [go_sem]) (by simp) ?_; rw [run_unfold X8.main.eq_1]
 have h2 := z.two
 have hmade := fun {Q : Post3} {k : List Item} {os : List AOper} {d : Option Nat} {e : Env} {σ : Sto} => X47_call (z := z) h (Q := Q) (k := k) (os := os) (d := d) (e := e) (σ := σ)
 generalize z.A = a at h2 hmade
 generalize z.B = b at h2 hmade
 generalize z.i = i at h2 hmade
 generalize z.j = j at h2 hmade
 have hl := partners_all h h2 rfl rfl 0 (by omega) 0 0 (by omega) (by omega) rfl rfl
 simp only [pE, List.cons_append, List.nil_append] at hl
 simp (maxSteps := 2000000) only [go_sem, hmade, X42_call h2.ok, X50_call h2.ok, X26_call h2.ok h2.len4]
 exact hl
@[go_sem] theorem X8_call {z : Cas} (h : z.Ok) {Q : Post3} {k : List Item} {os : List AOper} {d : Option Nat} {e : Env} {σ : Sto} : CallK T Q k os d e σ true i_X8 [z.v] ↔ Run T Q (.ops os :: k) (put e d (.bool true)) σ := X8_spec h

end Go.Abs
/- Walks of chapter 40: JoinOuter. -/
set_option linter.unusedSimpArgs false
set_option linter.unusedVariables false
set_option maxRecDepth 100000
set_option maxHeartbeats 8000000
namespace Go.Abs
open Go
attribute [local go_sem_proc] Nat.reduceLT Nat.reduceEqDiff Nat.reduceLeDiff Nat.reduceAdd Nat.reduceSub Nat.reduceMul Int.reduceLT Int.reduceLE Int.reduceEq Int.reduceNeg
attribute [local go_sem_proc ↓] reduceIte

theorem join_lenN {a b : Rows} {i j n : Int} : (joinL a b i j n).length ≤ a.length * (b.length + 1) := by
 induction a with
 | nil => simp [joinL]
 | cons p a ih =>
  have h1 : (jrow (fun x => b.filter (partP x i j)) n p.2).length ≤ b.length + 1 := by
   have := List.length_filter_le (partP p.2 i j) b
   unfold jrow
   split
   ·simp
   ·rw [List.length_map]; exact Nat.le_succ_of_le this
  simp only [joinL, List.flatMap_cons, List.length_append, List.length_cons] at ih ⊢
  refine Nat.le_trans (Nat.add_le_add h1 ih) ?_
  rw [Nat.add_mul, Nat.one_mul, Nat.add_comm]
  exact Nat.le_refl _
theorem Two.lenN {a b : Rows} {m n : Nat} {i j w : Int} (h : Two a b m n i j) : (joinL a b i j w).length ≤ 4096 := by
 refine Nat.le_trans join_lenN ?_
 have h1 := h.ha.n
 have h2 := h.hb.n
 exact Nat.le_trans (Nat.mul_le_mul h1 (Nat.succ_le_succ h2)) (by decide)
theorem X27_spec {f g : SlF} {a b : Rows} {i j n : Int} (h : JoinOk a b i j) (h0 : 0 ≤ n) (hn : n ≤ 32) (h4 : (joinL a b i j n).length ≤ 4096) {lv : List Nat} {σ : Sto} {R : Post} : Cw T true i_X27 [rowsA f a, rowsA g b, onA i j, .int .i64 n] lv σ R ↔ R (.tup [rowsA (flO (joinL a b i j n)) (lstR (joinL a b i j n)), .int .i64 0]) σ := by
 refine cw_intro T_X27 (by simp only [go_sem]) (by simp) ?_; rw [run_unfold X27.main.eq_1]
 have e1 : ¬ n < 0 := by omega
 have e2 : ¬ 32 < n := by omega
 simp (maxSteps := 2000000) only [go_sem, X49_call h.fa h.fb, fit_all h.hi h.ca, fit_all h.hj h.cb, X32_call h.fb h.cb, hash_call h (show n ≤ 1000 by omega) h4, Bool.true_and, e1, e2]
 done
@[go_sem] theorem X27_call {f g : SlF} {a b : Rows} {i j n : Int} (h : JoinOk a b i j) (h0 : 0 ≤ n) (hn : n ≤ 32) (h4 : (joinL a b i j n).length ≤ 4096) {Q : Post3} {k : List Item} {os : List AOper} {d : Option Nat} {e : Env} {σ : Sto} : CallK T Q k os d e σ true i_X27 [rowsA f a, rowsA g b, onA i j, .int .i64 n] ↔ Run T Q (.ops os :: k) (put e d (.tup [rowsA (flO (joinL a b i j n)) (lstR (joinL a b i j n)), .int .i64 0])) σ := X27_spec h h0 hn h4

theorem X38_spec {f g : SlF} {a b : Rows} {i j n : Int} (h : JoinOk a b i j) (h0 : 0 ≤ n) (hn : n ≤ 32) (h4 : (joinL a b i j n).length ≤ 4096) {lv : List Nat} {σ : Sto} {R : Post} : Cw T true i_X38 [.agg [rowsA f a, rowsA g b, .int .i64 i, .int .i64 j], .int .i64 n] lv σ R ↔ R (.agg [rowsA (flO (joinL a b i j n)) (lstR (joinL a b i j n)), .int .i64 0]) σ := by
 refine cw_intro T_X38 (by simp only [go_sem]) (by simp) ?_; rw [run_unfold X38.main.eq_1]
 simp (maxSteps := 2000000) only [go_sem, X27_call h h0 hn h4]
 done
@[go_sem] theorem X38_call {f g : SlF} {a b : Rows} {i j n : Int} (h : JoinOk a b i j) (h0 : 0 ≤ n) (hn : n ≤ 32) (h4 : (joinL a b i j n).length ≤ 4096) {Q : Post3} {k : List Item} {os : List AOper} {d : Option Nat} {e : Env} {σ : Sto} : CallK T Q k os d e σ true i_X38 [.agg [rowsA f a, rowsA g b, .int .i64 i, .int .i64 j], .int .i64 n] ↔ Run T Q (.ops os :: k) (put e d (.agg [rowsA (flO (joinL a b i j n)) (lstR (joinL a b i j n)), .int .i64 0])) σ := X38_spec h h0 hn h4


theorem apz_row {o : Nat} {x : List Val} {n : Nat} {σ : Sto} (hσ : σ[o]? = some (rowO x)) (hb : x.length + n ≤ 1000000) :
  appendzV 3 32 [.int .i64 0, .int .i64 0, .str ⟨#[]⟩] (refV o x) (.int .i64 (n : Int)) σ = some (refV o (x ++ List.replicate n zV), σ.set o (rowO (x ++ List.replicate n zV))) := by
 have hl := cellsV_len x
 have e : (List.replicate n [AVal.int .i64 0, .int .i64 0, .str ⟨#[]⟩]).flatten = cellsV (List.replicate n zV) := by
  rw [cellsV, List.flatMap_def, List.map_replicate]; rfl
 simp only [appendzV, hσ, Int.toNat_natCast, e]
 rw [if_pos ⟨by omega, by simp only [maxBytes]; omega, by decide, hl, trivial, trivial, trivial, rfl⟩]
 simp only [refV, rowO, cellsV, List.length_append, List.length_replicate, List.flatMap_append]
theorem app_row {o : Nat} {f : SlF} {x : List Val} {σ : Sto} (hσ : σ[o]? = some (.cells false [])) (hb : x.length ≤ 1000000) : appendV 3 32 (.ref o 0 0 0 3) (rowA f x) σ = some (refV o x, σ.set o (rowO x)) := by
 have ha := appendV_structs (σ := σ) (o := o) (k := 3) (bytes := 32) (f := f) (g := fun v : Val => [.int .i64 v.k, .int .i64 v.i, .str v.s]) (X := []) (Y := x) (by decide) (fun _ => rfl) (fun _ => rfl) hσ (by simp only [List.length_nil, maxBytes]; omega)
 simp only [List.length_nil, Nat.zero_mul, List.nil_append] at ha
 exact ha

abbrev oS (z : Cas) (a b : Rows) (O J W : List (List Val)) (i j : Int) (ν : Sto) : Sto := .cells false [bytesA z.fa z.a, bytesA z.fb z.b, .int .u8 (z.wa : Int), .int .u8 (z.wb : Int), .int .u8 (z.o0 : Int), .int .u8 (z.o1 : Int)] ::
 .cells false [rowsA .lst a, rowsA .lst b, .int .i64 i, .int .i64 j] :: .cells false [rowsA (flO O) (lstR O), .int .i64 0] :: .cells false [rowsA (flO J) (lstR J), .int .i64 0] :: rowsSt W :: ν
abbrev oE (n : Nat) (at' : Nat) (w : Nat) (l : List (Nat × AVal)) : Env := mkE 139 ([(3, .bool true), (4, .ptr 1 4 0), (5, .int .i64 (n : Int)), (6, .ptr 2 2 0), (7, .ptr 3 2 0), (8, .int .i64 (at' : Int)), (9, .ref 4 w 0 w 1)] ++ l)

theorem lst_get {X : List (List Val)} {q : Nat} (h : q < X.length) : (lstR X)[q]'(by rw [List.length_map]; exact h) = (.lst, X[q]) := List.getElem_map ..
theorem outer_same {z : Cas} {a b : Rows} {O J Lk rest W1 : List (List Val)} {i j : Int} {n k : Nat} (hL : Lk.length ≤ 1000) (hO : O.length ≤ 5000) (hk : k ≤ 1000) (hW1 : W1.length ≤ 5000)
  (hfit : ∀ r ∈ Lk, Fits r ∧ ∀ v ∈ r, Short v)
  (next : ∀ (at' : Nat), at' ≤ O.length → O.drop at' = rest → Run T (Res [.tmp 2] (.bool true)) (.inLoop X12.b0 :: X12.k0) (oE n at' W1.length [(10, .int .i64 ((k + 1 : Nat) : Int))]) (oS z a b O J W1 i j [])) :
  ∀ q, q ≤ Lk.length → ∀ (W : List (List Val)) (at' : Nat), W ++ Lk.drop q = W1 → at' ≤ O.length → O.drop at' = Lk.drop q ++ rest →
  Run T (Res [.tmp 2] (.bool true)) (.inLoop X12.b1 :: X12.k1 5) (oE n at' W.length [(10, .int .i64 k), (11, rowsA (flO Lk) (lstR Lk)), (12, .int .i64 q)]) (oS z a b O J W i j []) := by
 refine up_ind (fun W at' hW ha hd => ?_) fun q hq ih W at' hW ha hd => ?_
 ·rw [run_round, run_unfold X12.b1.eq_1]
  rw [List.drop_length, List.nil_append] at hd
  rw [List.drop_length, List.append_nil] at hW
  subst hW
  have nx := next at' ha hd
  have w1 := wrap_succ (show k < 9223372036854775807 by omega)
  simp only [oE, oS, List.cons_append, List.nil_append] at nx
  simp (maxSteps := 2000000) only [go_sem, oE, oS, List.cons_append, List.nil_append, run_unfold X12.c0.eq_1, run_unfold X12.c1.eq_1, run_unfold X12.c2.eq_1, run_unfold X12.c3.eq_1, X12.k0, X12.k1, X12.k1, Int.lt_irrefl, w1]
  exact ⟨v_names_map (fun _ => sv_pure) _, nx⟩
 ·rw [List.drop_eq_getElem_cons hq] at hW hd
  obtain ⟨g1, g2, g3⟩ := drop_get (show O.drop at' = Lk[q] :: (Lk.drop (q + 1) ++ rest) from hd)
  have ih' := ih (W ++ [Lk[q]]) (at' + 1) (by rw [List.append_assoc]; exact hW) g1 g3
  have hWl : W.length + 1 ≤ 5000 := by
   have := congrArg List.length hW
   simp only [List.length_append, List.length_cons] at this; omega
  obtain ⟨f1, f2⟩ := hfit _ (List.getElem_mem hq)
  have hsame : ∀ {Q : Post3} {kk : List Item} {os : List AOper} {d : Option Nat} {e : Env} {σ : Sto}, CallK T Q kk os d e σ true i_X51 [rowA .lst Lk[q], rowA .lst Lk[q]] ↔ Run T Q (.ops os :: kk) (put e d (.bool true)) σ := by
   intro Q kk os d e σ
   have := X51_call (f := .lst) (g := .lst) (a := Lk[q]) (b := Lk[q]) f1 f1 f2 f2 (Q := Q) (k := kk) (os := os) (d := d) (e := e) (σ := σ)
   rwa [decide_eq_true rfl] at this
  have hge : ¬ ((O.length : Nat) : Int) ≤ (at' : Int) := by omega
  have e1 := lst_get g1
  rw [g2] at e1
  have e2 := lst_get hq
  have w1 := wrap_succ (show at' < 9223372036854775807 by omega)
  have w2 := wrap_succ (show q < 9223372036854775807 by omega)
  rw [run_round, run_unfold X12.b1.eq_1]
  simp (maxSteps := 2000000) only [go_sem, oE, oS, List.cons_append, List.nil_append, hq, hge, g1, e1, e2, hsame]
  rw [appendV_push (nl := false) (cs := W.map fun r => rowA .lst r) (v := rowA .lst Lk[q]) rfl rfl (by simp) sv_one' (by simp only [maxBytes]; omega)]
  simp only [oE, oS, List.cons_append, List.nil_append, List.length_append, List.length_cons, List.length_nil, Nat.zero_add] at ih'
  have hm : W.map (fun r => rowA .lst r) ++ [rowA .lst Lk[q]] = (W ++ [Lk[q]]).map fun r => rowA .lst r := by simp
  rw [hm]
  simp (maxSteps := 2000000) only [go_sem, w1, w2]
  exact ⟨v_names_map (fun _ => sv_pure) _, ih'⟩

theorem outer_rows {z : Cas} {a b : Rows} {i j : Int} {n : Nat} (h : Two a b z.m z.n i j) (hn : n ≤ 3) : ∀ k, k ≤ a.length → ∀ (W : List (List Val)) (at' : Nat), W ++ joinL (a.drop k) b i j (-1) = joinL a b i j (-1) → at' ≤ (joinL a b i j n).length → (joinL a b i j n).drop at' = joinL (a.drop k) b i j n →
  Run T (Res [.tmp 2] (.bool true)) (.inLoop X12.b0 :: X12.k0) (oE n at' W.length [(10, .int .i64 k)]) (oS z a b (joinL a b i j n) (joinL a b i j (-1)) W i j []) := by
 have la := h.ha.n
 have lJ := h.len
 have lO := h.lenN (w := n)
 refine up_ind (fun W at' hW ha hd => ?_) fun k hk ih W at' hW ha hd => ?_
 ·have e1 : at' = (joinL a b i j n).length := by
   have := congrArg List.length hd
   simp only [List.length_drop, List.drop_length, joinL, List.flatMap_nil, List.length_nil] at this ha ⊢; omega
  have e2 : W = joinL a b i j (-1) := by
   rw [← hW, List.drop_length, joinL, List.flatMap_nil, List.append_nil]
  subst e1 e2
  rw [run_round, run_unfold X12.b0.eq_1]
  simp (maxSteps := 2000000) only [go_sem, oE, oS, List.cons_append, List.nil_append, run_unfold X12.c0.eq_1, run_unfold X12.c1.eq_1, run_unfold X12.c2.eq_1, run_unfold X12.c3.eq_1, X12.k0, X12.k1, Int.lt_irrefl]
  have hf := h.fitJ
  refine (callK_live T_X16 (as := [rowsA .lst (lstR (joinL a b i j (-1))), rowsA (flO (joinL a b i j (-1))) (lstR (joinL a b i j (-1)))]) (fun {lv σ R} => X16_spec hf hf) ?_ (by simp (maxSteps := 2000000) only [go_sem]) rfl).2 ?_
  ·simp (maxSteps := 2000000) only [go_sem]
   rw [snap_rows (n := 62) (o := 4) (X := joinL a b i j (-1)) rfl]
   done
  rw [decide_eq_true rfl]
  simp (maxSteps := 2000000) only [go_sem]
  done
 ·have hone := h.sub (one_sub hk) (List.Sublist.refl b)
  have hx := h.ha.w _ (List.getElem_mem hk)
  have hm3 := h.hm
  have hn3 := h.hn
  have w1 := wrap_succ (show k < 9223372036854775807 by omega)
  have w2 := wrap_succ (show at' < 9223372036854775807 by omega)
  have cn := fun {Q : Post3} {kk : List Item} {os : List AOper} {d : Option Nat} {e : Env} {σ : Sto} => nested_one (g := .lst) hone (Q := Q) (k := kk) (os := os) (d := d) (e := e) (σ := σ)
  have so : ∀ {σ : Sto}, sliceV 1 (rowsA .lst a) (some (.int .i64 (k : Int))) (some (.int .i64 ((k + 1 : Nat) : Int))) none σ = some (.list 1 [rowA a[k].1 a[k].2], σ) := by
   intro σ
   exact (slice_sv_one (σ := σ) (g := fun p : SlF × List Val => rowA p.1 p.2) (l := a) (kd := .i64) (kd' := .i64) (k := 1) hk).trans (by rw [sv_lst]; rfl)
  rw [List.drop_eq_getElem_cons hk] at hW hd
  have s1 : ∀ w : Int, joinL (a[k] :: a.drop (k + 1)) b i j w = jrow (fun x => b.filter (partP x i j)) w a[k].2 ++ joinL (a.drop (k + 1)) b i j w := fun w => rfl
  rw [s1] at hW hd
  have s2 : joinL [a[k]] b i j (-1) = jrow (fun x => b.filter (partP x i j)) (-1) a[k].2 := by simp [joinL]
  have hfit := hone.fitJ
  rw [s2] at cn hfit
  by_cases hp : b.filter (partP a[k].2 i j) = []
  ·have j1 : jrow (fun x => b.filter (partP x i j)) (-1) a[k].2 = [] := by rw [jrow_neg, hp]; rfl
   have j2 : jrow (fun x => b.filter (partP x i j)) (n : Int) a[k].2 = [a[k].2 ++ List.replicate n zV] := by
    unfold jrow
    rw [if_pos ⟨hp, by omega⟩, Int.toNat_natCast]
   rw [j1] at cn hW
   rw [j2] at hd
   obtain ⟨g1, g2, g3⟩ := drop_get (show (joinL a b i j n).drop at' = (a[k].2 ++ List.replicate n zV) :: joinL (a.drop (k + 1)) b i j n from hd)
   have ih' := ih W (at' + 1) hW g1 g3
   have hge : ¬ (((joinL a b i j n).length : Nat) : Int) ≤ (at' : Int) := by omega
   have e1 := lst_get g1
   rw [g2] at e1
   rw [run_round, run_unfold X12.b0.eq_1]
   simp (maxSteps := 2000000) only [go_sem, oE, oS, List.cons_append, List.nil_append, hk, so, w1, cn, hge, g1, e1]
   rw [app_row rfl (by omega)]
   simp (maxSteps := 2000000) only [go_sem]
   rw [apz_row rfl (by omega)]
   simp (maxSteps := 2000000) only [go_sem]
   obtain ⟨v1, v2⟩ := (h.ha.fit h.hm).2 _ (List.getElem_mem hk)
   have v3 : Fits (a[k].2 ++ List.replicate n zV) := by show List.length _ < _; rw [List.length_append, List.length_replicate]; omega
   have v4 : ∀ v ∈ a[k].2 ++ List.replicate n zV, Short v := by
    intro v hv
    rcases List.mem_append.1 hv with hv | hv
    ·exact v2 v hv
    ·rw [(List.mem_replicate.1 hv).2]; exact tab_short 0
   refine (callK_live T_X51 (as := [rowA .lst (a[k].2 ++ List.replicate n zV), rowA .lst (a[k].2 ++ List.replicate n zV)]) (fun {lv σ R} => X51_spec v3 v3 v4 v4) ?_ (by simp (maxSteps := 2000000) only [go_sem]) rfl).2 ?_
   ·simp (maxSteps := 2000000) only [go_sem]
    rw [snap_row (n := 62) (o := 5) (r := a[k].2 ++ List.replicate n zV) rfl]
   rw [decide_eq_true rfl]
   simp (maxSteps := 2000000) only [go_sem, run_unfold X12.c0.eq_1, run_unfold X12.c1.eq_1, run_unfold X12.c2.eq_1, run_unfold X12.c3.eq_1, X12.k0, X12.k1, w2]
   rw [run_round, run_unfold X12.b1.eq_1]
   simp only [oE, oS, List.cons_append, List.nil_append] at ih'
   simp (maxSteps := 2000000) only [go_sem, run_unfold X12.c0.eq_1, run_unfold X12.c1.eq_1, run_unfold X12.c2.eq_1, run_unfold X12.c3.eq_1, X12.k0, X12.k1, X12.k1, w1, Int.lt_irrefl]
   exact ⟨v_names_map (fun _ => sv_pure) _, ih'⟩
  ·have j1 : (jrow (fun x => b.filter (partP x i j)) (-1) a[k].2).length ≠ 0 := by
    rw [jrow_neg, List.length_map]
    intro e
    exact hp (List.eq_nil_of_length_eq_zero e)
   have j2 : jrow (fun x => b.filter (partP x i j)) (n : Int) a[k].2 = jrow (fun x => b.filter (partP x i j)) (-1) a[k].2 := by
    rw [jrow_neg]
    unfold jrow
    rw [if_neg (fun e => hp e.1)]
   rw [j2] at hd
   generalize jrow (fun x => b.filter (partP x i j)) (-1) a[k].2 = Lk at *
   have j3 : ¬ ((Lk.length : Nat) : Int) = 0 := by omega
   rw [run_round, run_unfold X12.b0.eq_1]
   simp (maxSteps := 2000000) only [go_sem, oE, oS, List.cons_append, List.nil_append, hk, so, w1, cn, j3]
   have ih' := fun at2 g1 g3 => ih (W ++ Lk) at2 (by rw [List.append_assoc]; exact hW) g1 g3
   have hWl : (W ++ Lk).length ≤ 5000 := by
    have := congrArg List.length hW
    simp only [List.length_append] at this ⊢; omega
   have hLl : Lk.length ≤ 1000 := by simp only [List.length_append] at hWl; have := congrArg List.length hW; simp only [List.length_append] at this; omega
   have hs := outer_same (z := z) (a := a) (b := b) (J := joinL a b i j (-1)) (n := n) (k := k) hLl (show (joinL a b i j n).length ≤ 5000 by omega) (by omega) hWl (fun r hr => hfit.2 (.lst, r) (List.mem_map_of_mem hr)) ih' 0 (by omega) W at' rfl ha (by simpa using hd)
   simp only [oE, oS, List.cons_append, List.nil_append] at hs
   simp (maxSteps := 2000000) only [go_sem, run_unfold X12.c0.eq_1, run_unfold X12.c1.eq_1, run_unfold X12.c2.eq_1, run_unfold X12.c3.eq_1, X12.k0, X12.k1]
   exact hs
theorem X12_spec {z : Cas} (h : z.Ok) {lv : List Nat} {σ : Sto} {R : Post} : Cw T true i_X12 [z.v] lv σ R ↔ R (.bool true) σ := by
 refine cw_intro T_X12 (by simp only [go_sem]) (by simp) ?_; rw [run_unfold X12.main.eq_1]
 have h2 := z.two
 have hmade := fun {Q : Post3} {k : List Item} {os : List AOper} {d : Option Nat} {e : Env} {σ : Sto} => X47_call (z := z) h (Q := Q) (k := k) (os := os) (d := d) (e := e) (σ := σ)
 generalize z.A = a at h2 hmade
 generalize z.B = b at h2 hmade
 generalize z.i = i at h2 hmade
 generalize z.j = j at h2 hmade
 have hw := wid (w := z.wb)
 have hl := outer_rows (z := z) h2 h2.hn 0 (by omega) [] 0 rfl (by omega) rfl
 simp only [oE, oS, List.cons_append, List.nil_append, List.length_nil] at hl
 have co := fun {Q k os d e σ} => @X38_call .lst .lst a b i j ((z.n : Nat) : Int) h2.ok (by omega) (by have := h2.hn; omega) h2.lenN Q k os d e σ
 simp (maxSteps := 2000000) only [go_sem, hmade, hw, co, X26_call h2.ok h2.len4]
 exact hl
@[go_sem] theorem X12_call {z : Cas} (h : z.Ok) {Q : Post3} {k : List Item} {os : List AOper} {d : Option Nat} {e : Env} {σ : Sto} : CallK T Q k os d e σ true i_X12 [z.v] ↔ Run T Q (.ops os :: k) (put e d (.bool true)) σ := X12_spec h

end Go.Abs
