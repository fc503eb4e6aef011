/- Parts of the proof: C42R, C42M, C42N, C42Q, C42S, C42Y, C42Z, C42U, C42AA, C42EX, C42T, C42AB. -/
import Derived.Test.YtpclhokdlhcjkaaJC42A
set_option linter.all false
/- Walks of chapter 42: results are compared. -/
set_option linter.unusedSimpArgs false
set_option linter.unusedVariables false
set_option maxRecDepth 100000
set_option maxHeartbeats 4000000
namespace Go.Abs
open Go
attribute [local go_sem_proc] Nat.reduceLT Nat.reduceEqDiff Nat.reduceLeDiff Nat.reduceAdd Nat.reduceSub Nat.reduceMul Int.reduceLT Int.reduceLE Int.reduceEq Int.reduceNeg
attribute [local go_sem_proc ↓] reduceIte

theorem X57_loop {f g : SlF} {a b : List Int} (ha : Fits a) (hl : a.length = b.length) : ∀ i, i ≤ a.length →
  Run T (Res [.tmp 4] (.bool (decide (a.drop i = b.drop i)))) (.inLoop X57.b0 :: X57.k0) (mkE 26 [(0, ints f a), (1, ints g b), (5, .int .i64 i)]) [] := by
 refine up_ind ?_ fun i hi ih => ?_
 ·rw [run_round, run_unfold X57.b0.eq_1]
  simp (maxSteps := 2000000) only [go_sem, run_unfold X57.c0.eq_1, run_unfold X57.c1.eq_1, X57.k0, List.drop_length, show List.drop a.length b = [] by rw [hl]; exact List.drop_length]
 ·rw [run_round, run_unfold X57.b0.eq_1]
  have hb : i < b.length := by omega
  rw [List.drop_eq_getElem_cons hi, List.drop_eq_getElem_cons hb]
  simp only [List.cons.injEq]
  by_cases h : a[i] = b[i]
  ·simp (maxSteps := 2000000) only [go_sem, hi, hb, h, wrap_succ (show i < 9223372036854775807 by omega)]
   exact ih
  ·simp (maxSteps := 2000000) only [go_sem, hi, hb, h]
theorem X57_spec {f g : SlF} {a b : List Int} (ha : Fits a) (hb : Fits b) {lv : List Nat} {σ : Sto} {R : Post} : Cw T true i_X57 [ints f a, ints g b] lv σ R ↔ R (.bool (decide (a = b))) σ := by
 refine cw_intro T_X57 (by simp only [go_sem]) (by simp) ?_; rw [run_unfold X57.main.eq_1]
 by_cases hl : a.length = b.length
 ·simp (maxSteps := 2000000) only [go_sem, hl]
  have := X57_loop (f := f) (g := g) ha hl 0 (by omega)
  simp only [List.drop_zero] at this
  exact this
 ·have h1 : ¬ (a.length : Int) = b.length := by omega
  have h2 : a ≠ b := fun e => hl (by rw [e])
  simp (maxSteps := 2000000) only [go_sem, h1, h2]
@[go_sem] theorem X57_call {f g : SlF} {a b : List Int} (ha : Fits a) (hb : Fits b) {Q : Post3} {k : List Item} {os : List AOper} {d : Option Nat} {e : Env} {σ : Sto} : CallK T Q k os d e σ true i_X57 [ints f a, ints g b] ↔ Run T Q (.ops os :: k) (put e d (.bool (decide (a = b)))) σ := X57_spec ha hb


theorem X46_loop {f g : SlF} {a b : Rows} (ha : RowsFit a) (hb : RowsFit b) (hl : a.length = b.length) : ∀ i, i ≤ a.length →
  Run T (Res [.tmp 4] (.bool (decide ((a.drop i).map Prod.snd = (b.drop i).map Prod.snd)))) (.inLoop X46.b0 :: X46.k0) (mkE 27 [(0, rowsA f a), (1, rowsA g b), (5, .int .i64 i)]) [] := by
 have ha3 := ha.1
 refine up_ind ?_ fun i hi ih => ?_
 ·rw [run_round, run_unfold X46.b0.eq_1]
  simp (maxSteps := 2000000) only [go_sem, run_unfold X46.c0.eq_1, run_unfold X46.c1.eq_1, X46.k0, List.drop_length, show List.drop a.length b = [] by rw [hl]; exact List.drop_length]
 ·rw [run_round, run_unfold X46.b0.eq_1]
  have hbi : i < b.length := by omega
  rw [List.drop_eq_getElem_cons hi, List.drop_eq_getElem_cons hbi]
  simp only [List.map_cons, List.cons.injEq]
  obtain ⟨h1, h2⟩ := ha.2 _ (List.getElem_mem hi)
  obtain ⟨h3, h4⟩ := hb.2 _ (List.getElem_mem hbi)
  have hc := @X59_call a[i].1 b[i].1 a[i].2 b[i].2 h1 h3 h2 h4
  by_cases h : a[i].2 = b[i].2
  ·have hd : decide (a[i].2 = b[i].2) = true := by simp [h]
   simp (maxSteps := 2000000) only [go_sem, hi, hbi, hc, hd, eq_true h, true_and, wrap_succ (show i < 9223372036854775807 by omega)]
   exact ih
  ·have hd : decide (a[i].2 = b[i].2) = false := by simp [h]
   simp (maxSteps := 2000000) only [go_sem, hi, hbi, hc, hd, eq_false h, false_and]
theorem X46_spec {f g : SlF} {a b : Rows} (ha : RowsFit a) (hb : RowsFit b) {lv : List Nat} {σ : Sto} {R : Post} : Cw T true i_X46 [rowsA f a, rowsA g b] lv σ R ↔ R (.bool (decide (a.map Prod.snd = b.map Prod.snd))) σ := by
 refine cw_intro T_X46 (by simp only [go_sem]) (by simp) ?_; rw [run_unfold X46.main.eq_1]
 by_cases hl : a.length = b.length
 ·simp (maxSteps := 2000000) only [go_sem, hl]
  have := X46_loop (f := f) (g := g) ha hb hl 0 (by omega)
  simp only [List.drop_zero] at this
  exact this
 ·have h1 : ¬ (a.length : Int) = b.length := by omega
  have h2 : ¬ a.map Prod.snd = b.map Prod.snd := fun e => hl (by have := congrArg List.length e; simpa using this)
  simp (maxSteps := 2000000) only [go_sem, h1, h2]
@[go_sem] theorem X46_call {f g : SlF} {a b : Rows} (ha : RowsFit a) (hb : RowsFit b) {Q : Post3} {k : List Item} {os : List AOper} {d : Option Nat} {e : Env} {σ : Sto} : CallK T Q k os d e σ true i_X46 [rowsA f a, rowsA g b] ↔ Run T Q (.ops os :: k) (put e d (.bool (decide (a.map Prod.snd = b.map Prod.snd)))) σ := X46_spec ha hb


def alikeB (L L' : List Val) (I I' : List Int) (R R' : Rows) (n n' : Int) : Bool := decide (n = n') && decide (L = L') && decide (I = I') && decide (R.map Prod.snd = R'.map Prod.snd)
structure GotFit (L : List Val) (I : List Int) (R : Rows) : Prop where
 l : Fits L
 s : ∀ v ∈ L, Short v
 i : Fits I
 r : RowsFit R
theorem X54_spec {f1 f2 f3 g1 g2 g3 : SlF} {L L' : List Val} {I I' : List Int} {R1 R2 : Rows} {n n' : Int} (h : GotFit L I R1) (hh : GotFit L' I' R2) {lv : List Nat} {σ : Sto} {R : Post} : Cw T true i_X54 [gotA f1 L f2 I f3 R1 n, gotA g1 L' g2 I' g3 R2 n'] lv σ R ↔ R (.bool (alikeB L L' I I' R1 R2 n n')) σ := by
 refine cw_intro T_X54 (by simp only [go_sem]) (by simp) ?_; rw [run_unfold X54.main.eq_1]
 unfold alikeB
 have c1 := @X59_call f1 g1 L L' h.l hh.l h.s hh.s
 have c2 := @X57_call f2 g2 I I' h.i hh.i
 have c3 := @X46_call f3 g3 R1 R2 h.r hh.r
 by_cases e1 : n = n'
 case neg => simp (maxSteps := 2000000) only [go_sem, e1]
 cases e2 : decide (L = L')
 case false => simp (maxSteps := 2000000) only [go_sem, e1, c1, e2]
 cases e3 : decide (I = I')
 case false => simp (maxSteps := 2000000) only [go_sem, e1, c1, e2, c2, e3]
 cases e4 : decide (R1.map Prod.snd = R2.map Prod.snd)
 ·simp (maxSteps := 2000000) only [go_sem, e1, c1, e2, c2, e3, c3, e4]
 ·simp (maxSteps := 2000000) only [go_sem, e1, c1, e2, c2, e3, c3, e4]
@[go_sem] theorem X54_call {f1 f2 f3 g1 g2 g3 : SlF} {L L' : List Val} {I I' : List Int} {R1 R2 : Rows} {n n' : Int} (h : GotFit L I R1) (hh : GotFit L' I' R2) {Q : Post3} {k : List Item} {os : List AOper} {d : Option Nat} {e : Env} {σ : Sto} : CallK T Q k os d e σ true i_X54 [gotA f1 L f2 I f3 R1 n, gotA g1 L' g2 I' g3 R2 n'] ↔ Run T Q (.ops os :: k) (put e d (.bool (alikeB L L' I I' R1 R2 n n'))) σ := X54_spec h hh

end Go.Abs
/- The plain law of windows: what the values along an order are. -/
set_option linter.unusedSimpArgs false
set_option linter.unusedVariables false
namespace Go.Abs
open Go

abbrev stepS (kd c : Int) (ord : List Int) (l : Rows) (st : St) (y : Int) : St := (nextS kd c ord st (rowP l y)).1
def aheadP (part : Int → Int) (s : List Int) (k : Nat) (x : Int) : List Int := (s.take k).filter fun y => decide (part y = part x)

theorem compF_some {kd c : Int} {ord : List Int} {l : Rows} {part : Int → Int} : ∀ (s : List Int) (g : Int → St) (D D' : List Val), compF kd c ord l part g s D = some D' → s.Nodup → (∀ x ∈ s, 0 ≤ x ∧ x < D.length) →
  D'.length = D.length ∧ (∀ i, (∀ x ∈ s, x.toNat ≠ i) → D'[i]? = D[i]?) ∧
  ∀ (k : Nat) (hk : k < s.length), D'[(s[k]).toNat]? = some (nextS kd c ord ((aheadP part s k s[k]).foldl (stepS kd c ord l) (g (part s[k]))) (rowP l s[k])).2.1
 | [], g, D, D', h, _, _ => by
  simp only [compF, Option.some.injEq] at h
  subst h
  exact ⟨rfl, fun _ _ => rfl, fun k hk => absurd hk (by simp)⟩
 | x :: s, g, D, D', h, hnd, hin => by
  rw [compF] at h
  split at h
  case isFalse => simp at h
  rw [List.nodup_cons] at hnd
  have hx := hin x (by simp)
  obtain ⟨h1, h2, h3⟩ := compF_some s _ _ D' h hnd.2 (fun y hy => by rw [List.length_set]; exact hin y (by simp [hy]))
  rw [List.length_set] at h1
  refine ⟨h1, fun i hi => ?_, fun k hk => ?_⟩
  ·rw [h2 i fun y hy => hi y (by simp [hy]), List.getElem?_set, if_neg (hi x (by simp))]
  ·cases k with
   | zero =>
    simp only [List.getElem_cons_zero, aheadP, List.take_zero, List.filter_nil, List.foldl_nil]
    rw [h2 x.toNat fun y hy e => hnd.1 (by
     have := hin y (by simp [hy])
     have : y = x := by omega
     rw [← this]; exact hy), List.getElem?_set_self (by omega)]
   | succ k =>
    have hk' : k < s.length := by simpa using hk
    simp only [List.getElem_cons_succ]
    rw [h3 k hk']
    simp only [aheadP, List.take_succ_cons]
    by_cases e : part s[k] = part x
    ·rw [List.filter_cons_of_pos (by simp [e])]
     simp only [List.foldl_cons, e, if_true]
    ·rw [List.filter_cons_of_neg (by simp; exact fun h => e h.symm)]
     rw [if_neg e]

theorem compF_total {kd c : Int} {ord : List Int} {l : Rows} {part : Int → Int} (hok : ∀ st fr, (nextS kd c ord st fr).2.2 = true) : ∀ (s : List Int) (g : Int → St) (D : List Val), ∃ D', compF kd c ord l part g s D = some D'
 | [], g, D => ⟨D, rfl⟩
 | x :: s, g, D => by
  rw [compF, if_pos (hok _ _)]
  exact compF_total hok s _ _
theorem next_ok {kd c : Int} {ord : List Int} (h : kd = 1 ∨ kd = 2 ∨ kd = 4) (st : St) (fr : SlF × List Val) : (nextS kd c ord st fr).2.2 = true := by
 rcases h with rfl | rfl | rfl <;> rfl

theorem nextS_n {kd c : Int} {ord : List Int} {s : St} {fr : SlF × List Val} : (nextS kd c ord s fr).1.n = IntKind.i64.wrap (s.n + 1) := by
 unfold nextS
 dsimp only
 repeat' split
 all_goals rfl
theorem fold_n {kd c : Int} {ord : List Int} {l : Rows} : ∀ (L : List Int) (st : St) (m : Nat), st.n = m → m + L.length < 1000000 → (L.foldl (stepS kd c ord l) st).n = (m + L.length : Nat)
 | [], st, m, h, _ => by simpa using h
 | y :: L, st, m, h, hb => by
  simp only [List.length_cons] at hb
  rw [List.foldl_cons, fold_n L _ (m + 1) (by rw [stepS, nextS_n, h, wrap_i64 (by omega) (by omega)]; omega) (by omega)]
  simp only [List.length_cons]; omega
theorem fold_last {kd c : Int} {ord : List Int} {l : Rows} : ∀ (L : List Int) (st : St), (L.foldl (stepS kd c ord l) st).last = match L.getLast? with | some y => some (rowP l y) | none => st.last
 | [], st => rfl
 | y :: L, st => by
  rw [List.foldl_cons, fold_last L]
  cases L with
  | nil => simp [stepS, nextS_last]
  | cons z L =>
   rw [List.getLast?_cons_cons, List.getLast?_eq_some_getLast (by simp)]

theorem partFold_law {key : Int → List Val} : ∀ (s : List Int) (n : Int) (prev : Option (List Val)) (D : List Int), s.Nodup → (∀ x ∈ s, 0 ≤ x ∧ x < D.length) → s.Pairwise (fun a b => cmpR (key a) (key b) ≤ 0) → (∀ k0, prev = some k0 → ∀ x ∈ s, cmpR k0 (key x) ≤ 0) →
  (∀ i, (∀ x ∈ s, x.toNat ≠ i) → (partFold key n prev s D)[i]? = D[i]?) ∧
  (∀ x ∈ s, n ≤ gdZ (partFold key n prev s D) x) ∧
  (∀ k0, prev = some k0 → ∀ x ∈ s, (gdZ (partFold key n prev s D) x = n ↔ key x = k0)) ∧
  (∀ x ∈ s, ∀ y ∈ s, (gdZ (partFold key n prev s D) x = gdZ (partFold key n prev s D) y ↔ key x = key y))
 | [], n, prev, D, _, _, _, _ => ⟨fun _ _ => rfl, by simp, by simp, by simp⟩
 | i :: r, n, prev, D, hnd, hin, hso, hpr => by
  rw [List.nodup_cons] at hnd
  rw [List.pairwise_cons] at hso
  have hi := hin i (by simp)
  rw [partFold]
  generalize hn' : (if prev.getD (key i) = key i then n else n + 1) = n'
  obtain ⟨h1, h2, h3, h4⟩ := partFold_law r n' (some (key i)) (D.set i.toNat n') hnd.2 (fun x hx => by rw [List.length_set]; exact hin x (by simp [hx])) hso.2 (fun k0 hk x hx => by obtain rfl := Option.some.inj hk; exact hso.1 x hx)
  generalize partFold key n' (some (key i)) r (D.set i.toNat n') = D' at h1 h2 h3 h4 ⊢
  have hDi : gdZ D' i = n' := by
   unfold gdZ
   rw [List.getD_eq_getElem?_getD, h1 i.toNat fun x hx e => hnd.1 (by
    have := hin x (by simp [hx])
    have : x = i := by omega
    rw [← this]; exact hx), List.getElem?_set_self (by omega)]
   rfl
  have hle : n ≤ n' := by rw [← hn']; split <;> omega
  have hir : ∀ x ∈ r, (gdZ D' x = n' ↔ key x = key i) := h3 _ rfl
  refine ⟨fun j hj => ?_, fun x hx => ?_, fun k0 hk x hx => ?_, fun x hx y hy => ?_⟩
  ·rw [h1 j fun x hx => hj x (by simp [hx]), List.getElem?_set, if_neg (hj i (by simp))]
  ·rcases List.mem_cons.1 hx with rfl | hx
   ·rw [hDi]; exact hle
   ·have := h2 x hx; omega
  ·subst hk
   simp only [Option.getD_some] at hn'
   have hki := hpr k0 rfl i (by simp)
   rcases List.mem_cons.1 hx with rfl | hx
   ·rw [hDi, ← hn']
    constructor
    ·intro h
     split at h
     ·rename_i e; exact e.symm
     ·omega
    ·rintro rfl; rw [if_pos rfl]
   ·by_cases e : k0 = key i
    ·rw [if_pos e] at hn'
     subst hn'
     rw [hir x hx, e]
    ·rw [if_neg e] at hn'
     constructor
     ·intro h; have := h2 x hx; omega
     ·intro h
      exfalso
      have := (cmpR_trans hki (hso.1 x hx)).2 (by rw [h]; exact cmpR_zero.2 rfl)
      exact e (cmpR_zero.1 this.1)
  ·rcases List.mem_cons.1 hx with ex | hx' <;> rcases List.mem_cons.1 hy with ey | hy'
   ·rw [ex, ey]; simp
   ·rw [ex, hDi]
    constructor
    ·intro h; exact ((hir y hy').1 h.symm).symm
    ·intro h; exact ((hir y hy').2 h.symm).symm
   ·rw [ey, hDi]; exact hir x hx'
   ·exact h4 x hx' y hy'

theorem sortI_nodup (l : Rows) (by_ : List Int) : (sortI l by_).Nodup := (isort_perm _ _).nodup_iff.2 (upN_nodup _)
theorem sortI_mem {l : Rows} {by_ : List Int} {x : Int} (h : 0 ≤ x ∧ x < l.length) : x ∈ sortI l by_ := by
 refine (isort_mem _).2 ?_
 simp only [upN, List.mem_map, List.mem_range]
 exact ⟨x.toNat, by omega, by omega⟩
theorem sortI_pair (l : Rows) (by_ : List Int) : (sortI l by_).Pairwise (fun a b => cmpI l by_ a b ≤ 0) := by
 have h := isort_sorted (ltI_tot l by_ (fun _ => True)).toOrd3 (D := upN l.length) (fun _ _ => trivial)
 refine h.imp fun {a b} hab => ?_
 simp only [ltI, decide_eq_false_iff_not] at hab
 have := cmpI_anti l by_ b a
 omega
theorem cmpI_key {l : Rows} {by_ : List Int} {a b : Int} (h : cmpI l by_ a b ≤ 0) : cmpR (keyI l by_ a) (keyI l by_ b) ≤ 0 := by
 simp only [cmpI, firstN3] at h
 by_cases e : cmpR (pickC (rowN l a) by_) (pickC (rowN l b) by_) = 0
 ·rw [e]; omega
 ·rw [if_neg e] at h; exact h
theorem partI_law {l : Rows} {by_ : List Int} {x y : Int} (hx : 0 ≤ x ∧ x < l.length) (hy : 0 ≤ y ∧ y < l.length) : gdZ (partI l by_) x = gdZ (partI l by_) y ↔ keyI l by_ x = keyI l by_ y :=
 (partFold_law (key := keyI l by_) (sortI l by_) 0 none (List.replicate l.length 0) (sortI_nodup l by_) (fun x hx => by rw [List.length_replicate]; exact sortI_in hx) ((sortI_pair l by_).imp cmpI_key) (fun _ h => by simp at h)).2.2.2 x (sortI_mem hx) y (sortI_mem hy)

theorem filter_at {q : Int → Bool} {s : List Int} {k : Nat} (hk : k < s.length) (hq : q s[k] = true) : (s.filter q)[((s.take k).filter q).length]? = some s[k] := by
 have e : s = s.take k ++ s[k] :: s.drop (k + 1) := by rw [← List.drop_eq_getElem_cons hk, List.take_append_drop]
 have : s.filter q = (s.take k).filter q ++ s[k] :: (s.drop (k + 1)).filter q := by
  conv => lhs; rw [e]
  rw [List.filter_append, List.filter_cons_of_pos hq]
 rw [this, List.getElem?_append_right (Nat.le_refl _), Nat.sub_self]; rfl
theorem filter_take {q : Int → Bool} {s : List Int} {k : Nat} : (s.take k).filter q = (s.filter q).take ((s.take k).filter q).length := by
 have : s.filter q = (s.take k).filter q ++ (s.drop k).filter q := by rw [← List.filter_append, List.take_append_drop]
 rw [this, List.take_left']
 rfl
end Go.Abs
/- The plain law of windows: tables that were made; numbers and predecessors. -/
set_option linter.unusedSimpArgs false
set_option linter.unusedVariables false
namespace Go.Abs
open Go

theorem strOf_size (n : Nat) : (strOf n).size ≤ 1 := by unfold strOf; repeat' split
                                                        all_goals decide
theorem mkRow_len (k : B4) : (mkRow k).length = 4 := rfl
theorem mkRow_short (k : B4) : ∀ v ∈ mkRow k, Short v := by
  intro v hv
  have h0 : (⟨#[]⟩ : ByteArray).size = 0 := rfl
  simp only [mkRow, List.mem_cons, List.not_mem_nil, or_false] at hv
  unfold Short
  rcases hv with rfl | rfl | rfl | rfl
  · simp only [numV, h0]; omega
  · split
    · simp only [zV, h0]; omega
    · simp only [numV, h0]; omega
  · have := strOf_size (k.2.2.1 % 3); simp only; omega
  · simp only [h0]; omega
theorem mkRows_len (l : List B4) : (mkRows l).length = min 16 l.length := by simp [mkRows]
theorem mkRows_mem {l : List B4} {p : SlF × List Val} (h : p ∈ mkRows l) : p.2.length = 4 ∧ ∀ v ∈ p.2, Short v := by
  simp only [mkRows, List.mem_map] at h
  obtain ⟨k, _, rfl⟩ := h
  exact ⟨rfl, mkRow_short k⟩
theorem mkRows_fit (l : List B4) : RowsFit (mkRows l) := by
  refine ⟨by rw [mkRows_len]; omega, fun p hp => ⟨?_, (mkRows_mem hp).2⟩⟩
  unfold Fits; rw [(mkRows_mem hp).1]; omega
theorem mkRows_tab {l : List B4} {cols : List Int} (h : ∀ c ∈ cols, 0 ≤ c ∧ c < 4) : tab (mkRows l) cols = true := by
  have hw : ∀ p ∈ mkRows l, p.2.length = wid (mkRows l) := by
    intro p hp
    cases hm : mkRows l with
    | nil => rw [hm] at hp; simp at hp
    | cons q r =>
      simp only [wid]
      rw [(mkRows_mem hp).1, (mkRows_mem (show q ∈ mkRows l by rw [hm]; simp)).1]
  simp only [tab, Bool.and_eq_true, List.all_eq_true, decide_eq_true_eq, Bool.or_eq_true]
  refine ⟨hw, ?_⟩
  cases hm : mkRows l with
  | nil => exact .inl rfl
  | cons q r =>
    refine .inr fun c hc => ⟨(h c hc).1, ?_⟩
    have := hw q (by rw [hm]; simp)
    rw [(mkRows_mem (show q ∈ mkRows l by rw [hm]; simp)).1, hm] at this
    have := (h c hc).2
    omega
theorem winCol_in (kind : Int) (q : B4) : 0 ≤ winCol kind q ∧ winCol kind q < 4 := by unfold winCol; split <;> omega
theorem winBy_len (q : B4) : (winBy q).length ≤ 2 := by rw [winBy, takeC_len]; omega
theorem winOrd_len (q : B4) : (winOrd q).length ≤ 2 := by rw [winOrd, takeC_len]; omega
theorem win_ok {l : List B4} {kind : Int} {q : B4} (h : 1 ≤ kind ∧ kind ≤ 4) : winOk kind (winCol kind q) (winBy q) (winOrd q) (mkRows l) = true := by
  have h1 := winBy_len q
  have h2 := winOrd_len q
  simp only [winOk, Bool.and_eq_true, decide_eq_true_eq]
  refine ⟨⟨⟨h, by omega⟩, by omega⟩, mkRows_tab fun c hc => ?_⟩
  rcases List.mem_cons.1 hc with rfl | hc
  · exact winCol_in kind q
  · rcases List.mem_append.1 hc with hc | hc
    · exact takeC_in _ _ c hc
    · exact takeC_in _ _ c hc

theorem comp_at {kd c : Int} {b o : List Int} {R : Rows} (hw : winOk kd c b o R = true) (hk : kd = 1 ∨ kd = 2 ∨ kd = 4) : ∃ D, computeR kd c b o R = (some D, 0) ∧ D.length = R.length ∧
    ∀ x : Int, 0 ≤ x ∧ x < R.length → ∃ A : List Int, A.length < R.length ∧ A = ((sortI R o).filter fun y => decide (gdZ (partI R b) y = gdZ (partI R b) x)).take A.length ∧
      ((sortI R o).filter fun y => decide (gdZ (partI R b) y = gdZ (partI R b) x))[A.length]? = some x ∧ D[x.toNat]? = some (nextS kd c o (A.foldl (stepS kd c o R) St0) (rowP R x)).2.1 := by
  obtain ⟨D, hD⟩ := compF_total (l := R) (part := gdZ (partI R b)) (c := c) (ord := o) (next_ok hk) (sortI R o) (fun _ => St0) (List.replicate R.length zV)
  obtain ⟨h1, _, h3⟩ := compF_some _ _ _ _ hD (sortI_nodup R o) (fun x hx => by rw [List.length_replicate]; exact sortI_in hx)
  rw [List.length_replicate] at h1
  refine ⟨D, ?_, h1, fun x hx => ?_⟩
  · have h3' : ¬ (kd = 3 ∧ (R.any fun p => oddC c p.2) = true) := by rintro ⟨rfl, _⟩; omega
    rw [computeR, if_pos hw, if_neg h3', hD]
  · obtain ⟨k, hk', hkx⟩ := List.getElem_of_mem (sortI_mem (by_ := o) hx)
    have h4 := h3 k hk'
    rw [hkx] at h4
    have hlen := sortI_len R o
    refine ⟨aheadP (gdZ (partI R b)) (sortI R o) k x, ?_, ?_, ?_, h4⟩
    · have := List.length_filter_le (fun y => decide (gdZ (partI R b) y = gdZ (partI R b) x)) ((sortI R o).take k)
      rw [List.length_take] at this
      unfold aheadP; omega
    · exact filter_take
    · have := filter_at (q := fun y => decide (gdZ (partI R b) y = gdZ (partI R b) x)) hk' (by rw [hkx]; simp)
      rw [hkx] at this; exact this
theorem numV_inj {a b : Nat} (ha : a < 1000) (hb : b < 1000) (h : numV (a : Int) = numV (b : Int)) : a = b := by
  have := congrArg Val.i h
  simp only [numV] at this
  rw [wrap_i64 (by omega) (by omega), wrap_i64 (by omega) (by omega)] at this
  omega
theorem num_val {c : Int} {o : List Int} {R : Rows} {A : List Int} {fr : SlF × List Val} (h : A.length < 1000) : (nextS 1 c o (A.foldl (stepS 1 c o R) St0) fr).2.1 = numV ((A.length + 1 : Nat) : Int) := by
  have := fold_n (kd := 1) (c := c) (ord := o) (l := R) A St0 0 rfl (by omega)
  have e : (nextS 1 c o (A.foldl (stepS 1 c o R) St0) fr).2.1 = numV (IntKind.i64.wrap ((A.foldl (stepS 1 c o R) St0).n + 1)) := rfl
  rw [e, this, wrap_i64 (by omega) (by omega)]
  congr 1; omega
theorem lag_val {c : Int} {o : List Int} {R : Rows} {A : List Int} {fr : SlF × List Val} : (nextS 4 c o (A.foldl (stepS 4 c o R) St0) fr).2.1 = match A.getLast? with | some y => colN (rowN R y) c | none => zV := by
  have := fold_last (kd := 4) (c := c) (ord := o) (l := R) A St0
  have e : (nextS 4 c o (A.foldl (stepS 4 c o R) St0) fr).2.1 = lagV (A.foldl (stepS 4 c o R) St0).last c := rfl
  rw [e, this]
  cases A.getLast? <;> rfl

theorem lag_law {c c' : Int} {b o : List Int} {R : Rows} (hR : R.length ≤ 300) (hw1 : winOk 1 c b o R = true) (hw4 : winOk 4 c' b o R = true) : ∃ D1 D4, computeR 1 c b o R = (some D1, 0) ∧ computeR 4 c' b o R = (some D4, 0) ∧ D1.length = R.length ∧ D4.length = R.length ∧
    (∀ (i : Nat) (h1 : i < D1.length) (h4 : i < D4.length), D1[i] = numV 1 → D4[i] = zV) ∧
    (∀ (i m : Nat) (h1 : i < D1.length) (h2 : m < D1.length) (h4 : m < D4.length), keyI R b i = keyI R b m → D1[m].i = IntKind.i64.wrap (D1[i].i + 1000000) → D4[m] = colN (rowN R i) c') := by
  obtain ⟨D1, e1, l1, p1⟩ := comp_at hw1 (.inl rfl)
  obtain ⟨D4, e4, l4, p4⟩ := comp_at hw4 (.inr (.inr rfl))
  have both : ∀ (i : Nat) (h1 : i < D1.length) (h4 : i < D4.length), ∃ A : List Int, A.length < R.length ∧ A = ((sortI R o).filter fun y => decide (gdZ (partI R b) y = gdZ (partI R b) (i : Int))).take A.length ∧
      ((sortI R o).filter fun y => decide (gdZ (partI R b) y = gdZ (partI R b) (i : Int)))[A.length]? = some (i : Int) ∧ D1[i] = numV ((A.length + 1 : Nat) : Int) ∧ D4[i] = match A.getLast? with | some y => colN (rowN R y) c' | none => zV := by
    intro i h1 h4
    obtain ⟨A, a1, a2, a3, a4⟩ := p1 i (by omega)
    obtain ⟨B, b1, b2, b3, b4⟩ := p4 i (by omega)
    have hAB : A.length = B.length := by
      have hnd : ((sortI R o).filter fun y => decide (gdZ (partI R b) y = gdZ (partI R b) (i : Int))).Nodup := (sortI_nodup R o).filter _
      obtain ⟨hA, eA⟩ := List.getElem?_eq_some_iff.1 a3
      obtain ⟨hB, eB⟩ := List.getElem?_eq_some_iff.1 b3
      rcases Nat.lt_trichotomy A.length B.length with h | h | h
      · exact absurd (eA.trans eB.symm) (List.pairwise_iff_getElem.1 hnd _ _ hA hB h)
      · exact h
      · exact absurd (eB.trans eA.symm) (List.pairwise_iff_getElem.1 hnd _ _ hB hA h)
    have hAB' : A = B := by rw [a2, b2, hAB]
    subst hAB'
    simp only [Int.toNat_natCast] at a4 b4
    rw [num_val (by omega)] at a4
    rw [lag_val] at b4
    rw [List.getElem?_eq_getElem h1] at a4
    rw [List.getElem?_eq_getElem h4] at b4
    exact ⟨A, a1, a2, a3, Option.some.inj a4, Option.some.inj b4⟩
  refine ⟨D1, D4, e1, e4, l1, l4, fun i h1 h4 hn => ?_, fun i m h1 h2 h4 hk hn => ?_⟩
  · obtain ⟨A, a1, a2, a3, a4, a5⟩ := both i h1 h4
    rw [a4] at hn
    have := numV_inj (a := A.length + 1) (b := 1) (by omega) (by omega) hn
    have hA : A = [] := List.eq_nil_of_length_eq_zero (by omega)
    rw [a5, hA]; rfl
  · obtain ⟨A, a1, a2, a3, a4, a5⟩ := both i h1 (by omega)
    obtain ⟨B, b1, b2, b3, b4, b5⟩ := both m h2 h4
    have hp : gdZ (partI R b) (i : Int) = gdZ (partI R b) (m : Int) := (partI_law (by omega) (by omega)).2 hk
    rw [hp] at a2 a3
    rw [a4, b4] at hn
    simp only [numV] at hn
    rw [wrap_i64 (x := ((A.length + 1 : Nat) : Int) * 1000000) (by omega) (by omega), wrap_i64 (by omega) (by omega), wrap_i64 (by omega) (by omega)] at hn
    have hl : B.length = A.length + 1 := by omega
    rw [b5]
    have hB : B = A ++ [(i : Int)] := by
      rw [b2, hl, List.take_add_one, ← a2, a3]; rfl
    rw [hB, List.getLast?_append]
    rfl
end Go.Abs
/- The plain law of windows: a part of a table as a table of its own. -/
set_option linter.unusedSimpArgs false
set_option linter.unusedVariables false
namespace Go.Abs
open Go

def subR (R : Rows) (E : List Nat) : Rows := E.map fun i => R.getD i (.nil, [])
def embE (E : List Nat) (x : Int) : Int := ((E.getD x.toNat 0 : Nat) : Int)

section
variable {R : Rows} {E : List Nat}
theorem subR_len : (subR R E).length = E.length := by simp [subR]
theorem subR_row {x : Int} (h : 0 ≤ x ∧ x < E.length) : rowP (subR R E) x = rowP R (embE E x) := by
 unfold rowP subR embE
 have hx : x.toNat < E.length := by omega
 rw [List.getD_eq_getElem?_getD, List.getElem?_map, List.getElem?_eq_getElem hx]
 simp only [Option.map_some, Option.getD_some, Int.toNat_natCast]
 rw [List.getD_eq_getElem?_getD (l := E), List.getElem?_eq_getElem hx]; rfl
theorem embE_in (hE : ∀ i ∈ E, i < R.length) {x : Int} (h : 0 ≤ x ∧ x < E.length) : 0 ≤ embE E x ∧ embE E x < R.length := by
 unfold embE
 have hx : x.toNat < E.length := by omega
 rw [List.getD_eq_getElem?_getD, List.getElem?_eq_getElem hx]
 have := hE _ (List.getElem_mem hx)
 simp only [Option.getD_some]; omega
theorem embE_lt (hs : E.Pairwise (· < ·)) {x y : Int} (hx : 0 ≤ x ∧ x < E.length) (hy : 0 ≤ y ∧ y < E.length) (h : x < y) : embE E x < embE E y := by
 unfold embE
 have h1 : x.toNat < E.length := by omega
 have h2 : y.toNat < E.length := by omega
 rw [List.getD_eq_getElem?_getD, List.getElem?_eq_getElem h1, List.getD_eq_getElem?_getD, List.getElem?_eq_getElem h2]
 have := List.pairwise_iff_getElem.1 hs x.toNat y.toNat h1 h2 (by omega)
 simp only [Option.getD_some]; omega
theorem cmpI_sub (hs : E.Pairwise (· < ·)) {o : List Int} {x y : Int} (hx : 0 ≤ x ∧ x < E.length) (hy : 0 ≤ y ∧ y < E.length) : cmpI (subR R E) o x y = cmpI R o (embE E x) (embE E y) := by
 have e1 : rowN (subR R E) x = rowN R (embE E x) := congrArg Prod.snd (subR_row hx)
 have e2 : rowN (subR R E) y = rowN R (embE E y) := congrArg Prod.snd (subR_row hy)
 have e3 : sgn x y = sgn (embE E x) (embE E y) := by
  unfold sgn
  rcases Int.lt_trichotomy x y with h | h | h
  ·have := embE_lt hs hx hy h
   rw [if_pos h, if_pos this]
  ·subst h; simp only [Int.lt_irrefl, if_false]
  ·have := embE_lt hs hy hx h
   rw [if_neg (by omega), if_pos h, if_neg (by omega), if_pos this]
 simp only [cmpI, e1, e2, e3]

theorem sort_sub (hs : E.Pairwise (· < ·)) (hE : ∀ i ∈ E, i < R.length) {o : List Int} {q : Int → Bool} (hq : ∀ i, i < R.length → (q (i : Int) = true ↔ i ∈ E)) : (sortI (subR R E) o).map (embE E) = (sortI R o).filter q := by
 have hin : ∀ x ∈ sortI (subR R E) o, 0 ≤ x ∧ x < E.length := fun x hx => by
  have := sortI_in hx
  rwa [subR_len] at this
 refine strict_unique (r := ltI R o) (p := fun _ => True) (fun a b _ _ h => (ltI_tot R o (fun _ => True)).asym a b trivial trivial h) (fun _ _ => trivial) (fun x => ?_) ?_ ?_
 ·constructor
  ·intro hx
   obtain ⟨y, hy, rfl⟩ := List.mem_map.1 hx
   have hy' := hin y hy
   have hb := embE_in hE hy'
   refine List.mem_filter.2 ⟨sortI_mem hb, ?_⟩
   have h2 : y.toNat < E.length := by omega
   have : embE E y = ((E[y.toNat] : Nat) : Int) := by
    unfold embE; rw [List.getD_eq_getElem?_getD, List.getElem?_eq_getElem h2]; rfl
   rw [this]
   exact (hq _ (hE _ (List.getElem_mem h2))).2 (List.getElem_mem h2)
  ·intro hx
   obtain ⟨h1, h2⟩ := List.mem_filter.1 hx
   have hb := sortI_in h1
   obtain ⟨n, rfl⟩ := Int.eq_ofNat_of_zero_le hb.1
   have hm := (hq n (by omega)).1 h2
   obtain ⟨j, hj, hjn⟩ := List.getElem_of_mem hm
   refine List.mem_map.2 ⟨(j : Int), sortI_mem (by rw [subR_len]; omega), ?_⟩
   unfold embE
   rw [Int.toNat_natCast, List.getD_eq_getElem?_getD, List.getElem?_eq_getElem hj, hjn]; rfl
 ·rw [List.pairwise_map]
  have h1 := sortI_pair (subR R E) o
  have h2 := sortI_nodup (subR R E) o
  refine (List.Pairwise.and_mem.1 (List.Pairwise.and h1 h2)).imp fun {a b} ⟨ha, hb, hab, hne⟩ => ?_
  rw [cmpI_sub hs (hin a ha) (hin b hb)] at hab
  have hz : cmpI R o (embE E a) (embE E b) ≠ 0 := fun h => hne (by
   rw [← cmpI_sub hs (hin a ha) (hin b hb)] at h
   exact cmpI_zero.1 h)
  simp only [ltI, decide_eq_true_eq]; omega
 ·have h1 := sortI_pair R o
  have h2 := sortI_nodup R o
  refine ((List.Pairwise.and h1 h2).imp fun {a b} ⟨hab, hne⟩ => ?_).filter q
  have hz : cmpI R o a b ≠ 0 := fun h => hne (cmpI_zero.1 h)
  simp only [ltI, decide_eq_true_eq]; omega
end

theorem compF_iff {kd c : Int} {ord : List Int} {l : Rows} {part : Int → Int} : ∀ (s : List Int) (g : Int → St) (D : List Val),
  (∃ D', compF kd c ord l part g s D = some D') ↔ ∀ (k : Nat) (hk : k < s.length), (nextS kd c ord ((aheadP part s k s[k]).foldl (stepS kd c ord l) (g (part s[k]))) (rowP l s[k])).2.2 = true
 | [], g, D => ⟨fun _ k hk => absurd hk (by simp), fun _ => ⟨D, rfl⟩⟩
 | x :: s, g, D => by
  have key : ∀ (k : Nat) (hk : k < s.length), (aheadP part (x :: s) (k + 1) s[k]).foldl (stepS kd c ord l) (g (part s[k])) = (aheadP part s k s[k]).foldl (stepS kd c ord l) ((fun y => if y = part x then (nextS kd c ord (g (part x)) (rowP l x)).1 else g y) (part s[k])) := by
   intro k hk
   simp only [aheadP, List.take_succ_cons]
   by_cases e : part s[k] = part x
   ·rw [List.filter_cons_of_pos (by simp [e])]
    simp only [List.foldl_cons, e, if_true]
   ·rw [List.filter_cons_of_neg (by simp; exact fun h => e h.symm), if_neg e]
  constructor
  ·rintro ⟨D', h⟩ k hk
   rw [compF] at h
   split at h
   case isFalse => simp at h
   rename_i hok
   have ih := (compF_iff s _ _).1 ⟨D', h⟩
   cases k with
   | zero => simp only [List.getElem_cons_zero, aheadP, List.take_zero, List.filter_nil, List.foldl_nil]; exact hok
   | succ k =>
    have hk' : k < s.length := by simpa using hk
    have := ih k hk'
    rw [← key k hk'] at this
    simpa only [List.getElem_cons_succ] using this
  ·intro h
   have h0 := h 0 (by simp)
   simp only [List.getElem_cons_zero, aheadP, List.take_zero, List.filter_nil, List.foldl_nil] at h0
   rw [compF, if_pos h0]
   refine (compF_iff s _ _).2 fun k hk => ?_
   have := h (k + 1) (by simpa using hk)
   simp only [List.getElem_cons_succ] at this
   rw [← key k hk]; exact this

theorem foldl_emb {α : Type} {f f' : α → Int → α} {e : Int → Int} : ∀ (L : List Int) (st : α), (∀ y ∈ L, ∀ st, f' st y = f st (e y)) → L.foldl f' st = (L.map e).foldl f st
 | [], _, _ => rfl
 | y :: L, st, h => by
  rw [List.foldl_cons, List.map_cons, List.foldl_cons, h y (by simp), foldl_emb L _ fun z hz => h z (by simp [hz])]

theorem comp_sub {kd c : Int} {b b' o : List Int} {R : Rows} {E : List Nat} {D : List Val} {first : List Val} (hR : computeR kd c b o R = (some D, 0)) (hs : E.Pairwise (· < ·)) (hE : ∀ i, i ∈ E ↔ i < R.length ∧ keyI R b (i : Int) = pickC first b) (hw' : winOk kd c b' o (subR R E) = true)
  (hb' : b' = b ∨ b' = []) : D.length = R.length ∧ computeR kd c b' o (subR R E) = (some (E.map fun i => D.getD i zV), 0) := by
 have hElt : ∀ i ∈ E, i < R.length := fun i hi => ((hE i).1 hi).1
 have hw : winOk kd c b o R = true := by
  cases h : winOk kd c b o R with
  | true => rfl
  | false => rw [computeR, h] at hR; simp at hR
 have hodd : ¬ (kd = 3 ∧ (R.any fun p => oddC c p.2) = true) := fun h => by
  rw [computeR, if_pos hw, if_pos h] at hR; simp at hR
 rw [computeR, if_pos hw, if_neg hodd] at hR
 obtain ⟨D0, hD⟩ : ∃ D0, compF kd c o R (gdZ (partI R b)) (fun _ => St0) (sortI R o) (List.replicate R.length zV) = some D0 := by
  cases h : compF kd c o R (gdZ (partI R b)) (fun _ => St0) (sortI R o) (List.replicate R.length zV) with
  | some D0 => exact ⟨D0, rfl⟩
  | none => rw [h] at hR; simp at hR
 rw [hD] at hR
 obtain rfl : D0 = D := by simpa using hR
 have hok := (compF_iff _ _ _).1 ⟨D0, hD⟩
 obtain ⟨l1, _, h3⟩ := compF_some _ _ _ _ hD (sortI_nodup R o) (fun x hx => by rw [List.length_replicate]; exact sortI_in hx)
 rw [List.length_replicate] at l1
 refine ⟨l1, ?_⟩
 have hq : ∀ i, i < R.length → ((fun y => decide (keyI R b y = pickC first b)) (i : Int) = true ↔ i ∈ E) := fun i hi => by
  simp only [decide_eq_true_eq]
  rw [hE i]; exact ⟨fun h => ⟨hi, h⟩, fun h => h.2⟩
 have hsub := sort_sub (o := o) (q := fun y => decide (keyI R b y = pickC first b)) hs hElt hq
 have hin : ∀ x ∈ sortI (subR R E) o, 0 ≤ x ∧ x < E.length := fun x hx => by
  have := sortI_in hx
  rwa [subR_len] at this
 -- what stands ahead
 have hahead : ∀ (k : Nat) (hk : k < (sortI (subR R E) o).length), ∃ (k2 : Nat) (hk2 : k2 < (sortI R o).length), (sortI R o)[k2] = embE E (sortI (subR R E) o)[k] ∧
   (aheadP (gdZ (partI (subR R E) b')) (sortI (subR R E) o) k (sortI (subR R E) o)[k]).map (embE E) = aheadP (gdZ (partI R b)) (sortI R o) k2 (embE E (sortI (subR R E) o)[k]) := by
  intro k hk
  have hx := hin _ (List.getElem_mem hk)
  have hb := embE_in hElt hx
  obtain ⟨k2, hk2, hk2x⟩ := List.getElem_of_mem (sortI_mem (by_ := o) hb)
  refine ⟨k2, hk2, hk2x, ?_⟩
  -- all rows of the part are of one partition
  have hkey : ∀ y : Int, 0 ≤ y ∧ y < E.length → keyI R b (embE E y) = pickC first b := fun y hy => by
   have h2 : y.toNat < E.length := by omega
   have : embE E y = ((E[y.toNat] : Nat) : Int) := by
    unfold embE; rw [List.getD_eq_getElem?_getD, List.getElem?_eq_getElem h2]; rfl
   rw [this]
   exact ((hE _).1 (List.getElem_mem h2)).2
  have hsame : ∀ y : Int, 0 ≤ y ∧ y < E.length → gdZ (partI (subR R E) b') y = gdZ (partI (subR R E) b') (sortI (subR R E) o)[k] := fun y hy => by
   refine (partI_law (by rw [subR_len]; exact hy) (by rw [subR_len]; exact hx)).2 ?_
   rcases hb' with rfl | rfl
   ·have e1 : rowN (subR R E) y = rowN R (embE E y) := congrArg Prod.snd (subR_row hy)
    have e2 : rowN (subR R E) (sortI (subR R E) o)[k] = rowN R (embE E (sortI (subR R E) o)[k]) := congrArg Prod.snd (subR_row hx)
    unfold keyI
    rw [e1, e2]
    exact (hkey y hy).trans (hkey _ hx).symm
   ·rfl
  have hall : aheadP (gdZ (partI (subR R E) b')) (sortI (subR R E) o) k (sortI (subR R E) o)[k] = (sortI (subR R E) o).take k := by
   unfold aheadP
   rw [List.filter_eq_self]
   intro y hy
   simp only [decide_eq_true_eq]
   exact hsame y (hin y (List.mem_of_mem_take hy))
  have hfil : aheadP (gdZ (partI R b)) (sortI R o) k2 (embE E (sortI (subR R E) o)[k]) = ((sortI R o).take k2).filter fun y => decide (keyI R b y = pickC first b) := by
   unfold aheadP
   refine List.filter_congr fun y hy => ?_
   have hyb := sortI_in (List.mem_of_mem_take hy)
   refine decide_eq_decide.2 ?_
   rw [partI_law hyb hb, hkey _ hx]
  rw [hall, hfil, List.map_take, hsub]
  rw [filter_take (k := k2)]
  congr 1
  have hat := filter_at (q := fun y => decide (keyI R b y = pickC first b)) hk2 (by rw [hk2x]; simp only [decide_eq_true_eq]; exact hkey _ hx)
  have hat2 : ((sortI R o).filter fun y => decide (keyI R b y = pickC first b))[k]? = some (embE E (sortI (subR R E) o)[k]) := by
   rw [← hsub, List.getElem?_map, List.getElem?_eq_getElem hk]; rfl
  rw [hk2x] at hat
  have hnd : ((sortI R o).filter fun y => decide (keyI R b y = pickC first b)).Nodup := (sortI_nodup R o).filter _
  obtain ⟨hA, eA⟩ := List.getElem?_eq_some_iff.1 hat
  obtain ⟨hB, eB⟩ := List.getElem?_eq_some_iff.1 hat2
  rcases Nat.lt_trichotomy (((sortI R o).take k2).filter fun y => decide (keyI R b y = pickC first b)).length k with h | h | h
  ·exact absurd (eA.trans eB.symm) (List.pairwise_iff_getElem.1 hnd _ _ hA hB h)
  ·exact h.symm
  ·exact absurd (eB.trans eA.symm) (List.pairwise_iff_getElem.1 hnd _ _ hB hA h)
 have hnext : ∀ (k : Nat) (hk : k < (sortI (subR R E) o).length), ∃ (k2 : Nat) (hk2 : k2 < (sortI R o).length), (sortI R o)[k2] = embE E (sortI (subR R E) o)[k] ∧
   nextS kd c o ((aheadP (gdZ (partI (subR R E) b')) (sortI (subR R E) o) k (sortI (subR R E) o)[k]).foldl (stepS kd c o (subR R E)) St0) (rowP (subR R E) (sortI (subR R E) o)[k]) =
    nextS kd c o ((aheadP (gdZ (partI R b)) (sortI R o) k2 (sortI R o)[k2]).foldl (stepS kd c o R) St0) (rowP R (sortI R o)[k2]) := by
  intro k hk
  obtain ⟨k2, hk2, e1, e2⟩ := hahead k hk
  refine ⟨k2, hk2, e1, ?_⟩
  rw [e1, ← e2, subR_row (hin _ (List.getElem_mem hk)), foldl_emb (f := stepS kd c o R) (e := embE E)]
  intro y hy st
  have hy' := hin y (List.mem_of_mem_take (List.mem_filter.1 hy).1)
  unfold stepS
  rw [subR_row hy']
 obtain ⟨D', hD'⟩ := (compF_iff (kd := kd) (c := c) (ord := o) (l := subR R E) (part := gdZ (partI (subR R E) b')) (sortI (subR R E) o) (fun _ => St0) (List.replicate (subR R E).length zV)).2 fun k hk => by
  obtain ⟨k2, hk2, _, e2⟩ := hnext k hk
  rw [e2]; exact hok k2 hk2
 obtain ⟨m1, _, m3⟩ := compF_some _ _ _ _ hD' (sortI_nodup _ o) (fun x hx => by rw [List.length_replicate]; exact sortI_in hx)
 rw [List.length_replicate, subR_len] at m1
 have hodd' : ¬ (kd = 3 ∧ ((subR R E).any fun p => oddC c p.2) = true) := by
  rintro ⟨h1, h2⟩
  refine hodd ⟨h1, ?_⟩
  rw [List.any_eq_true] at h2 ⊢
  obtain ⟨p, hp, hpo⟩ := h2
  simp only [subR, List.mem_map] at hp
  obtain ⟨i, hi, rfl⟩ := hp
  have := hElt i hi
  exact ⟨R[i], List.getElem_mem this, by rw [List.getD_eq_getElem?_getD, List.getElem?_eq_getElem this] at hpo; exact hpo⟩
 rw [computeR, if_pos hw', if_neg hodd', hD']
 have : D' = E.map fun i => D0.getD i zV := by
  apply List.ext_getElem?
  intro j
  rcases Nat.lt_or_ge j E.length with hj | hj
  ·obtain ⟨k, hk, hkx⟩ := List.getElem_of_mem (sortI_mem (l := subR R E) (by_ := o) (x := (j : Int)) (by rw [subR_len]; omega))
   obtain ⟨k2, hk2, e1, e2⟩ := hnext k hk
   have a1 := m3 k hk
   have a2 := h3 k2 hk2
   rw [e2, ← Option.some.inj (a2.symm.trans a2)] at a1
   rw [hkx] at a1
   rw [e1, hkx] at a2
   have he : embE E (j : Int) = ((E[j] : Nat) : Int) := by
    unfold embE; rw [Int.toNat_natCast, List.getD_eq_getElem?_getD, List.getElem?_eq_getElem hj]; rfl
   rw [he, Int.toNat_natCast] at a2
   rw [Int.toNat_natCast] at a1
   rw [List.getElem?_map, List.getElem?_eq_getElem hj, a1]
   simp only [Option.map_some, List.getD_eq_getElem?_getD]
   rw [e1, hkx, he] 
   rw [a2]; rfl
  ·rw [List.getElem?_eq_none (by omega), List.getElem?_eq_none (by simp; omega)]
 rw [this]
end Go.Abs
/- The plain law of windows: sums of made tables; values are short. -/
set_option linter.unusedSimpArgs false
set_option linter.unusedVariables false
namespace Go.Abs
open Go

theorem nextS_sum {c : Int} {o : List Int} {s : St} {fr : SlF × List Val} : (nextS 3 c o s fr).1.sum.i = s.sum.i ∨ ((nextS 3 c o s fr).1.sum.i = IntKind.i64.wrap (s.sum.i + (colN fr.2 c).i)) := by
 unfold nextS
 dsimp only
 rw [if_neg (by decide), if_neg (by decide), if_neg (by decide)]
 split
 ·split
  ·exact .inl rfl
  ·exact .inr rfl
 ·exact .inl rfl
theorem fold_sum {c : Int} {o : List Int} {R : Rows} : ∀ (L : List Int) (st : St) (m : Nat), (∀ y ∈ L, -10000000 ≤ (colN (rowN R y) c).i ∧ (colN (rowN R y) c).i ≤ 10000000) → -10000000 * (m : Int) ≤ st.sum.i → st.sum.i ≤ 10000000 * (m : Int) → m + L.length ≤ 1000 →
  -10000000 * ((m + L.length : Nat) : Int) ≤ (L.foldl (stepS 3 c o R) st).sum.i ∧ (L.foldl (stepS 3 c o R) st).sum.i ≤ 10000000 * ((m + L.length : Nat) : Int)
 | [], st, m, _, h1, h2, _ => by simpa using ⟨h1, h2⟩
 | y :: L, st, m, h, h1, h2, hb => by
  simp only [List.length_cons] at hb
  have hy := h y (by simp)
  have hs := nextS_sum (c := c) (o := o) (s := st) (fr := rowP R y)
  rw [rowP_snd] at hs
  have hw : IntKind.i64.wrap (st.sum.i + (colN (rowN R y) c).i) = st.sum.i + (colN (rowN R y) c).i := wrap_i64 (by omega) (by omega)
  rw [hw] at hs
  have ih := fold_sum (c := c) (o := o) (R := R) L (stepS 3 c o R st y) (m + 1) (fun z hz => h z (by simp [hz])) (by unfold stepS; rcases hs with hs | hs <;> rw [hs] <;> omega) (by unfold stepS; rcases hs with hs | hs <;> rw [hs] <;> omega) (by omega)
  rw [List.foldl_cons, List.length_cons, show m + (L.length + 1) = m + 1 + L.length by omega]
  exact ih
theorem sum_ok {c : Int} {o : List Int} {s : St} {fr : SlF × List Val} (h1 : -1000000000000 ≤ s.sum.i) (h2 : s.sum.i ≤ 1000000000000) (h3 : -10000000 ≤ (colN fr.2 c).i) (h4 : (colN fr.2 c).i ≤ 10000000) : (nextS 3 c o s fr).2.2 = true := by
 have hw : IntKind.i64.wrap (s.sum.i + (colN fr.2 c).i) = s.sum.i + (colN fr.2 c).i := wrap_i64 (by omega) (by omega)
 unfold nextS
 dsimp only
 rw [if_neg (by decide), if_neg (by decide), if_neg (by decide), hw]
 split
 ·rw [if_neg (by omega)]
  simp only [Bool.and_eq_true, decide_eq_true_eq]; omega
 ·simp only [Bool.and_eq_true, decide_eq_true_eq]; omega

theorem numV_small {n : Int} (h1 : -10 ≤ n) (h2 : n ≤ 10) : -10000000 ≤ (numV n).i ∧ (numV n).i ≤ 10000000 := by
 have : (numV n).i = n * 1000000 := wrap_i64 (by omega) (by omega)
 rw [this]; omega
theorem mkRow_col {k : B4} {c : Int} (hc : c = 0 ∨ c = 1) : ((colN (mkRow k) c).k = 0 ∨ (colN (mkRow k) c).k = 2) ∧ -10000000 ≤ (colN (mkRow k) c).i ∧ (colN (mkRow k) c).i ≤ 10000000 := by
 rcases hc with rfl | rfl
 ·have : colN (mkRow k) 0 = numV ((k.1 % 3 : Nat) : Int) := rfl
  rw [this]
  exact ⟨.inr rfl, numV_small (by omega) (by omega)⟩
 ·have : colN (mkRow k) 1 = if k.2.1 % 5 = 0 then zV else numV (((k.2.1 % 7 : Nat) : Int) - 2) := rfl
  rw [this]
  split
  ·exact ⟨.inl rfl, by decide, by decide⟩
  ·exact ⟨.inr rfl, numV_small (by omega) (by omega)⟩
theorem mkRows_row {l : List B4} {x : Int} (h : 0 ≤ x ∧ x < (mkRows l).length) : ∃ k, rowN (mkRows l) x = mkRow k := by
 have := rowN_int h
 have hm : (mkRows l)[x.toNat]'(by omega) ∈ mkRows l := List.getElem_mem _
 simp only [mkRows, List.mem_map] at hm
 obtain ⟨k, _, hk⟩ := hm
 exact ⟨k, by rw [← this]; simp only [mkRows] at hk ⊢; rw [← hk]⟩
theorem winCol3 (q : B4) : winCol 3 q = 0 ∨ winCol 3 q = 1 := by unfold winCol; rw [if_pos rfl]; omega

theorem comp_made {l : List B4} {q : B4} {kind : Int} (h : 1 ≤ kind ∧ kind ≤ 4) : ∃ D, computeR kind (winCol kind q) (winBy q) (winOrd q) (mkRows l) = (some D, 0) ∧ D.length = (mkRows l).length := by
 by_cases hk : kind = 3
 ·subst hk
  have hw := win_ok (l := l) (q := q) h
  have hcol : ∀ x : Int, 0 ≤ x ∧ x < (mkRows l).length → (((colN (rowN (mkRows l) x) (winCol 3 q)).k = 0 ∨ (colN (rowN (mkRows l) x) (winCol 3 q)).k = 2) ∧ -10000000 ≤ (colN (rowN (mkRows l) x) (winCol 3 q)).i ∧ (colN (rowN (mkRows l) x) (winCol 3 q)).i ≤ 10000000) := fun x hx => by
   obtain ⟨k, hk⟩ := mkRows_row hx
   have := mkRow_col (k := k) (winCol3 q)
   rw [← hk] at this
   exact this
  have hR3 := (mkRows_fit l).1
  obtain ⟨D, hD⟩ := (compF_iff (kd := 3) (c := winCol 3 q) (ord := winOrd q) (l := mkRows l) (part := gdZ (partI (mkRows l) (winBy q))) (sortI (mkRows l) (winOrd q)) (fun _ => St0) (List.replicate (mkRows l).length zV)).2 fun k hk => by
   have hx := sortI_in (List.getElem_mem hk)
   have hlen := sortI_len (mkRows l) (winOrd q)
   have hA : (aheadP (gdZ (partI (mkRows l) (winBy q))) (sortI (mkRows l) (winOrd q)) k (sortI (mkRows l) (winOrd q))[k]).length ≤ 300 := by
    unfold aheadP
    have := List.length_filter_le (fun y => decide (gdZ (partI (mkRows l) (winBy q)) y = gdZ (partI (mkRows l) (winBy q)) (sortI (mkRows l) (winOrd q))[k])) ((sortI (mkRows l) (winOrd q)).take k)
    rw [List.length_take] at this; omega
   have hs := fold_sum (c := winCol 3 q) (o := winOrd q) (R := mkRows l) (aheadP (gdZ (partI (mkRows l) (winBy q))) (sortI (mkRows l) (winOrd q)) k (sortI (mkRows l) (winOrd q))[k]) St0 0 (fun y hy => (hcol y (sortI_in (List.mem_of_mem_take (List.mem_filter.1 hy).1))).2) (by decide) (by decide) (by omega)
   have hv := (hcol _ hx).2
   exact sum_ok (by omega) (by omega) (by rw [rowP_snd]; exact hv.1) (by rw [rowP_snd]; exact hv.2)
  obtain ⟨h1, _, _⟩ := compF_some _ _ _ _ hD (sortI_nodup _ _) (fun x hx => by rw [List.length_replicate]; exact sortI_in hx)
  rw [List.length_replicate] at h1
  have hodd : ¬ ((3 : Int) = 3 ∧ ((mkRows l).any fun p => oddC (winCol 3 q) p.2) = true) := by
   rintro ⟨_, h⟩
   rw [List.any_eq_true] at h
   obtain ⟨p, hp, ho⟩ := h
   obtain ⟨i, hi, rfl⟩ := List.getElem_of_mem hp
   have := (hcol (i : Int) (by omega)).1
   rw [rowN_get hi] at this
   simp only [oddC, Bool.and_eq_true, Bool.not_eq_true', decide_eq_false_iff_not] at ho
   rcases this with e | e
   ·exact ho.1 e
   ·exact ho.2 e
  exact ⟨D, by rw [computeR, if_pos hw, if_neg hodd, hD], h1⟩
 ·obtain ⟨D, h1, h2, _⟩ := comp_at (win_ok (l := l) (q := q) h) (by omega)
  exact ⟨D, h1, h2⟩

structure StShort (s : St) : Prop where
 sum : s.sum.s = ⟨#[]⟩
 last : ∀ p, s.last = some p → ∀ v ∈ p.2, Short v
theorem short_numV (n : Int) : Short (numV n) := by unfold Short numV; exact (by decide : (⟨#[]⟩ : ByteArray).size < 9223372036854775807)
theorem short_zV : Short zV := by unfold Short zV; exact (by decide : (⟨#[]⟩ : ByteArray).size < 9223372036854775807)
theorem short_col {r : List Val} (h : ∀ v ∈ r, Short v) (c : Int) : Short (colN r c) := by
 unfold colN
 rw [List.getD_eq_getElem?_getD]
 cases hr : r[c.toNat]? with
 | none => exact short_zV
 | some v => exact h v (List.mem_of_getElem? hr)
theorem nextS_short {kd c : Int} {o : List Int} {s : St} {fr : SlF × List Val} (h : StShort s) (hf : ∀ v ∈ fr.2, Short v) : StShort (nextS kd c o s fr).1 ∧ Short (nextS kd c o s fr).2.1 := by
 have hl : ∀ p, (nextS kd c o s fr).1.last = some p → ∀ v ∈ p.2, Short v := fun p hp => by
  rw [nextS_last] at hp
  obtain rfl := Option.some.inj hp
  exact hf
 have hsz : ∀ (k i : Int), Short ⟨k, i, s.sum.s⟩ := fun k i => by
  unfold Short; simp only [h.sum]; exact (by decide : (⟨#[]⟩ : ByteArray).size < 9223372036854775807)
 have hlag : Short (lagV s.last c) := by
  unfold lagV
  split
  ·exact short_zV
  ·rename_i p hp; exact short_col (h.last p hp) c
 refine ⟨⟨?_, hl⟩, ?_⟩
 ·unfold nextS
  dsimp only
  repeat' split
  all_goals exact h.sum
 ·unfold nextS
  dsimp only
  repeat' split
  all_goals first | exact short_numV _ | exact short_zV | exact hlag | exact hsz _ _ | exact hsz s.sum.k s.sum.i
theorem fold_short {kd c : Int} {o : List Int} {R : Rows} (hR : ∀ p ∈ R, ∀ v ∈ p.2, Short v) : ∀ (L : List Int) (st : St), StShort st → StShort (L.foldl (stepS kd c o R) st)
 | [], st, h => h
 | y :: L, st, h => by
  rw [List.foldl_cons]
  refine fold_short hR L _ (nextS_short h ?_).1
  rw [rowP_snd]
  unfold rowN
  rw [List.getD_eq_getElem?_getD]
  cases hr : R[y.toNat]? with
  | none => intro v hv; simp at hv
  | some p => exact hR p (List.mem_of_getElem? hr)
theorem comp_short {kd c : Int} {b o : List Int} {R : Rows} {D : List Val} {n : Int} (hR : ∀ p ∈ R, ∀ v ∈ p.2, Short v) (h : computeR kd c b o R = (some D, n)) : D.length = R.length ∧ ∀ v ∈ D, Short v := by
 unfold computeR at h
 split at h
 case isFalse => simp at h
 split at h
 ·simp at h
 split at h
 case h_2 => simp at h
 rename_i D0 hD
 obtain rfl : D0 = D := by simpa using (Prod.mk.inj h).1
 obtain ⟨h1, _, h3⟩ := compF_some _ _ _ _ hD (sortI_nodup R o) (fun x hx => by rw [List.length_replicate]; exact sortI_in hx)
 rw [List.length_replicate] at h1
 refine ⟨h1, fun v hv => ?_⟩
 obtain ⟨i, hi, rfl⟩ := List.getElem_of_mem hv
 obtain ⟨k, hk, hkx⟩ := List.getElem_of_mem (sortI_mem (l := R) (by_ := o) (x := (i : Int)) (by omega))
 have h4 := h3 k hk
 rw [hkx, Int.toNat_natCast, List.getElem?_eq_getElem hi] at h4
 rw [Option.some.inj h4]
 refine (nextS_short (fold_short hR _ _ ⟨rfl, fun p hp => by simp [St0] at hp⟩) ?_).2
 rw [rowP_snd, rowN_get (by omega)]
 exact hR _ (List.getElem_mem _)
end Go.Abs
/- Walks of chapter 42: Append. -/
set_option linter.unusedSimpArgs false
set_option linter.unusedVariables false
set_option maxRecDepth 100000
set_option maxHeartbeats 4000000
namespace Go.Abs
open Go
attribute [local go_sem_proc] Nat.reduceLT Nat.reduceEqDiff Nat.reduceLeDiff Nat.reduceAdd Nat.reduceSub Nat.reduceMul Int.reduceLT Int.reduceLE Int.reduceEq Int.reduceNeg
attribute [local go_sem_proc ↓] reduceIte

def isN (p : SlF × List Val) : Bool := match p with
 | (.nil, []) => true
 | _ => false
abbrev refV (o : Nat) (r : List Val) : AVal := .ref o (r.length * 3) 0 r.length 3
abbrev rowO (r : List Val) : AObj := .cells false (cellsV r)
def outsG : Nat → Rows → List AVal
 | _, [] => []
 | k, p :: X => if isN p = true then .nils :: outsG k X else refV k p.2 :: outsG (k + 1) X
def objsG : Rows → Sto
 | [] => []
 | p :: X => if isN p = true then objsG X else rowO p.2 :: objsG X
abbrev stG (X : Rows) : Sto := .cells false (outsG 1 X) :: objsG X
theorem outsG_len : ∀ (k : Nat) (X : Rows), (outsG k X).length = X.length
 | _, [] => rfl
 | k, p :: X => by unfold outsG; split <;> simp [outsG_len]
theorem outsG_app : ∀ (k : Nat) (X : Rows) (p : SlF × List Val), outsG k (X ++ [p]) = outsG k X ++ (if isN p = true then [.nils] else [refV (k + (objsG X).length) p.2])
 | k, [], p => by simp only [List.nil_append, outsG, objsG, List.length_nil, Nat.add_zero]
 | k, q :: X, p => by
  simp only [List.cons_append, outsG, objsG]
  by_cases h : isN q = true
  ·simp only [if_pos h, outsG_app k X p, List.cons_append]
  ·simp only [if_neg h, outsG_app (k + 1) X p, List.cons_append, List.length_cons]
   rw [show k + 1 + (objsG X).length = k + ((objsG X).length + 1) by omega]
theorem objsG_app : ∀ (X : Rows) (p : SlF × List Val), objsG (X ++ [p]) = objsG X ++ (if isN p = true then [] else [rowO p.2])
 | [], p => by simp only [List.nil_append, objsG]
 | q :: X, p => by
  simp only [List.cons_append, objsG]
  by_cases h : isN q = true
  ·simp only [if_pos h, objsG_app X p]
  ·simp only [if_neg h, objsG_app X p, List.cons_append]
theorem isN_val {p : SlF × List Val} (h : isN p = true) : p = (.nil, []) := by
 unfold isN at h
 split at h
 ·rfl
 ·cases h
theorem isN_eqnil {p : SlF × List Val} (h : ¬ isN p = true) (σ : Sto) : eqnilV false .sl (rowA p.1 p.2) σ = some (.bool false, σ) := by
 obtain ⟨f, r⟩ := p
 cases r with
 | nil => cases f <;> first | rfl | exact absurd rfl h
 | cons a r => exact eqnilV_sv (by simp)

section
variable {X : Rows}
def NoN (X : Rows) : Prop := ∀ p ∈ X, isN p = false
theorem outsG_at : ∀ {k : Nat} {X : Rows} (_ : NoN X) {i : Nat} (hi : i < X.length), (outsG k X)[i]? = some (refV (k + i) X[i].2)
 | k, p :: X, h, 0, hi => by simp [outsG, h p (by simp)]
 | k, p :: X, h, i + 1, hi => by
  have := outsG_at (k := k + 1) (X := X) (fun q hq => h q (by simp [hq])) (i := i) (by simpa using hi)
  simp only [outsG, h p (by simp), Bool.false_eq_true, if_false, List.getElem?_cons_succ, List.getElem_cons_succ, this]
  rw [show k + 1 + i = k + (i + 1) by omega]
theorem objsG_at : ∀ {X : Rows} (_ : NoN X) {i : Nat} (hi : i < X.length), (objsG X)[i]? = some (rowO X[i].2)
 | p :: X, h, 0, hi => by simp [objsG, h p (by simp)]
 | p :: X, h, i + 1, hi => by
  have := objsG_at (X := X) (fun q hq => h q (by simp [hq])) (i := i) (by simpa using hi)
  simp only [objsG, h p (by simp), Bool.false_eq_true, if_false, List.getElem?_cons_succ, List.getElem_cons_succ, this]
theorem objsG_len : ∀ {X : Rows}, NoN X → (objsG X).length = X.length
 | [], _ => rfl
 | p :: X, h => by simp [objsG, h p (by simp), objsG_len (X := X) fun q hq => h q (by simp [hq])]
theorem outsG_set : ∀ {k : Nat} {X : Rows} (_ : NoN X) {i : Nat} (hi : i < X.length) {p : SlF × List Val} (_ : isN p = false), outsG k (X.set i p) = (outsG k X).set i (refV (k + i) p.2)
 | k, q :: X, h, 0, hi, p, hp => by simp [outsG, h q (by simp), hp]
 | k, q :: X, h, i + 1, hi, p, hp => by
  have := outsG_set (k := k + 1) (X := X) (fun q hq => h q (by simp [hq])) (i := i) (by simpa using hi) hp
  simp only [List.set_cons_succ, outsG, h q (by simp), Bool.false_eq_true, if_false, this]
  rw [show k + 1 + i = k + (i + 1) by omega]
theorem objsG_set : ∀ {X : Rows} (_ : NoN X) {i : Nat} (hi : i < X.length) {p : SlF × List Val} (_ : isN p = false), objsG (X.set i p) = (objsG X).set i (rowO p.2)
 | q :: X, h, 0, hi, p, hp => by simp [objsG, h q (by simp), hp]
 | q :: X, h, i + 1, hi, p, hp => by
  have := objsG_set (X := X) (fun q hq => h q (by simp [hq])) (i := i) (by simpa using hi) hp
  simp only [List.set_cons_succ, objsG, h q (by simp), Bool.false_eq_true, if_false, this]
end

def clR (X : Rows) : Rows := X.map fun p => (if isN p = true then .nil else .lst, p.2)
theorem snapG {σ : Sto} {n : Nat} : ∀ (X : Rows) (k : Nat), (∀ j ob, (objsG X)[j]? = some ob → σ[k + j]? = some ob) → (outsG k X).mapM (snapA σ (n + 2)) = some ((clR X).map fun p => rowA p.1 p.2)
 | [], k, _ => rfl
 | p :: X, k, h => by
  simp only [outsG, clR, List.map_cons]
  by_cases hp : isN p = true
  ·have := snapG (σ := σ) (n := n) X k (by simpa [objsG, hp] using h)
   obtain rfl := isN_val hp
   simp only [if_pos hp, List.mapM_cons, this, Option.pure_def, Option.bind_eq_bind, Option.bind_some, clR]
   rfl
  ·have := snapG (σ := σ) (n := n) X (k + 1) fun j ob hj => by
    have := h (j + 1) ob (by simpa [objsG, hp] using hj)
    rw [show k + 1 + j = k + (j + 1) by omega]; exact this
   have h0 := snap_vals (σ := σ) (n := n) (o := k) (c := p.2) (by have := h 0 (rowO p.2) (by simp [objsG, hp]); simpa using this)
   simp only [if_neg hp, List.mapM_cons, this, h0, Option.pure_def, Option.bind_eq_bind, Option.bind_some, clR]
theorem snap_out {X : Rows} {T' : Sto} {m : Nat} : snapA (stG X ++ T') (m + 3) (.ref 0 X.length 0 X.length 1) = some (rowsA .lst (clR X)) := by
 have h0 : (AVal.ref 0 X.length 0 X.length 1).pure = false := by simp [AVal.names]
 have hs := snapG (σ := stG X ++ T') (n := m) X 1 fun j ob hj => by
  rw [Nat.add_comm, List.cons_append, List.getElem?_cons_succ, List.getElem?_append_left (List.getElem?_eq_some_iff.1 hj).1]; exact hj
 rw [snapA, h0]
 have hl := outsG_len 1 X
 simp only [Bool.false_eq_true, if_false, List.cons_append, List.getElem?_cons_zero, hl, Nat.mul_one, Nat.zero_add, Nat.le_refl, true_and, Nat.lt_add_one, if_true, List.drop_zero, Bool.false_and]
 rw [List.take_of_length_le (by omega)]
 rw [show (outsG 1 X).mapM (snapA (.cells false (outsG 1 X) :: (objsG X ++ T')) (m + 2)) = _ from hs, Option.map_some]
 have hc := chunk_one ((clR X).map fun p => rowA p.1 p.2)
 rw [List.length_map, clR, List.length_map] at hc
 rw [clR, hc]
 exact congrArg some (sv_lst ..).symm

theorem clone_V {p : SlF × List Val} {σ : Sto} {R : Post} (h : ¬ isN p = true) (hl : p.2.length ≤ 1000000) :
  Cw T false i_X22 [rowA p.1 p.2] [] σ R ↔ R (refV σ.length p.2) (σ ++ [rowO p.2]) := by
 rw [cw_enter T_X22 (by simp), run_unfold X22.main.eq_1]
 simp (maxSteps := 2000000) only [go_sem, isN_eqnil h]
 have ha := appendV_structs (σ := σ ++ [.cells false []]) (o := σ.length) (k := 3) (bytes := 32) (f := p.1) (g := fun v : Val => [.int .i64 v.k, .int .i64 v.i, .str v.s]) (X := []) (Y := p.2) (by decide) (fun _ => rfl) (fun _ => rfl) get_last (by simp [maxBytes]; omega)
 simp only [List.length_nil, Nat.zero_mul, List.nil_append, set_last] at ha
 rw [show appendV 3 32 (.ref σ.length 0 0 0 3) (rowA p.1 p.2) (σ ++ [.cells false []]) = some (refV σ.length p.2, σ ++ [rowO p.2]) from ha]
 simp (maxSteps := 2000000) only [go_sem]
theorem clone_N {σ : Sto} {R : Post} : Cw T false i_X22 [.nils] [] σ R ↔ R .nils σ := by
 rw [cw_enter T_X22 (by simp), run_unfold X22.main.eq_1]
 simp (maxSteps := 2000000) only [go_sem, show eqnilV false .sl .nils σ = some (.bool true, σ) from rfl]

structure WinT where
 kd : Int
 c : Int
 fb : SlF
 b : List Int
 fo : SlF
 o : List Int
abbrev winV (w : WinT) : AVal := winA w.kd w.c w.fb w.b w.fo w.o
abbrev winsA (f : SlF) (l : List WinT) : AVal := sv 4 f (l.map fun w => .agg (winC w.kd w.c w.fb w.b w.fo w.o))
abbrev winO (w : WinT) : AObj := .cells false (winC w.kd w.c w.fb w.b w.fo w.o)
def addCol (X : Rows) (D : List Val) : Rows := List.zipWith (fun p d => (.lst, p.2 ++ [d])) X D
def appendR (R : Rows) : Rows → List WinT → Option Rows × Int
 | X, [] => (some X, 0)
 | X, w :: ws => match computeR w.kd w.c w.b w.o R with
  | (some D, _) => appendR R (addCol X D) ws
  | (none, e) => (none, e)
def appV (r : Option Rows × Int) : AVal := match r.1 with
 | some X => .tup [rowsA .lst (clR X), .int .i64 r.2]
 | none => .tup [.nils, .int .i64 r.2]

theorem append_loop0 {f g : SlF} {R : Rows} {ws : List WinT} (hR : RowsFit R) (hsm : ∀ p ∈ R, p.2.length ≤ 1000) {V : AVal}
  (next : Run T (Res [.tmp 4, .tmp 5] V) [.code X35.c4] (mkE 66 [(0, rowsA f R), (1, winsA g ws), (6, .ref 0 R.length 0 R.length 1)]) (stG R)) : ∀ i, i ≤ R.length →
  Run T (Res [.tmp 4, .tmp 5] V) (.inLoop X35.b0 :: X35.k0) (mkE 66 [(0, rowsA f R), (1, winsA g ws), (6, .ref 0 R.length 0 R.length 1), (18, rowsA f R), (19, .int .i64 R.length), (20, .int .i64 i)]) (.cells false (outsG 1 (R.take i) ++ List.replicate (R.length - i) .nils) :: objsG (R.take i)) := by
 have hR3 := hR.1
 refine up_ind ?_ fun i hi ih => ?_
 ·rw [run_round, run_unfold X35.b0.eq_1]
  rw [List.take_length, Nat.sub_self, List.replicate_zero, List.append_nil]
  simp (maxSteps := 2000000) only [go_sem, X35.k0, run_unfold X35.c5.eq_1]
  exact next
 ·rw [run_round, run_unfold X35.b0.eq_1]
  rw [List.take_succ_eq_append_getElem hi, outsG_app, objsG_app] at ih
  have hol := outsG_len 1 (R.take i)
  rw [List.length_take, Nat.min_eq_left (by omega)] at hol
  have hcl : (outsG 1 (R.take i) ++ List.replicate (R.length - i) AVal.nils).length = R.length := by simp [hol]; omega
  have hov : ∀ v : AVal, (outsG 1 (R.take i) ++ List.replicate (R.length - i) AVal.nils).take i ++ [v] ++ (outsG 1 (R.take i) ++ List.replicate (R.length - i) AVal.nils).drop (i + 1) = outsG 1 (R.take i) ++ [v] ++ List.replicate (R.length - (i + 1)) AVal.nils := by
   intro v
   rw [List.take_left' hol, List.drop_append, List.drop_eq_nil_of_le (by omega), hol, List.drop_replicate, List.nil_append]
   rw [show R.length - i - (i + 1 - i) = R.length - (i + 1) by omega]
  have hfit := hsm _ (List.getElem_mem hi)
  have hi1 : i + 1 ≤ R.length := hi
  generalize hcs : outsG 1 (R.take i) ++ List.replicate (R.length - i) AVal.nils = cs at hcl hov
  by_cases hp : isN R[i] = true
  ·rw [if_pos hp, if_pos hp, List.append_nil] at ih
   have he := isN_val hp
   simp (maxSteps := 2000000) only [go_sem, hi, hi1, he, callK_shared clone_N, hcl, hov, Nat.zero_add, Nat.mul_one, List.length_map, wrap_succ (show i < 9223372036854775807 by omega)]
   exact ih
  ·rw [if_neg hp, if_neg hp] at ih
   have hcv := fun (Q : Post3) (k : List Item) (os : List AOper) (d : Option Nat) (e : Env) => callK_shared (T := T) (Q := Q) (k := k) (os := os) (d := d) (e := e) (fun {S} => clone_V (p := R[i]) (σ := .cells false cs :: objsG (R.take i)) (R := S) hp (by omega))
   rw [Nat.add_comm 1] at ih
   simp (maxSteps := 2000000) only [go_sem, hi, hi1, hcv, hcl, hov, Nat.zero_add, Nat.mul_one, List.length_map, wrap_succ (show i < 9223372036854775807 by omega)]
   exact ih

theorem outsG_under {m : Nat} : ∀ {k : Nat} {X : Rows}, k + X.length ≤ m → AVal.namesL (fun o => decide (o < m)) (outsG k X) = true
 | k, [], _ => rfl
 | k, p :: X, h => by
  simp only [List.length_cons] at h
  unfold outsG
  split
  ·simp only [AVal.namesL, AVal.names, Bool.true_and]; exact outsG_under (by omega)
  ·simp only [AVal.namesL, AVal.names, Bool.and_eq_true, decide_eq_true_eq]; exact ⟨by omega, outsG_under (by omega)⟩
theorem objsG_under {m : Nat} : ∀ {X : Rows}, (objsG X).all (AObj.under m) = true
 | [] => rfl
 | p :: X => by
  unfold objsG
  split
  ·exact objsG_under
  ·rw [List.all_cons, objsG_under, Bool.and_true]
   simp only [AObj.under, AVal.unders]; exact v_names_flat (fun _ => rfl) _
theorem winO_under {m : Nat} {w : WinT} : AObj.under m (winO w) = true := by simp only [AObj.under, AVal.unders]; simp (maxSteps := 2000000) only [go_sem]
theorem stG_under {X : Rows} {m : Nat} {w : WinT} (h : X.length < m) : (stG X ++ [winO w]).all (AObj.under m) = true := by
 rw [List.all_append, stG, List.all_cons, objsG_under, List.all_cons, winO_under]
 simp only [AObj.under, AVal.unders, List.all_nil, Bool.and_true]
 exact outsG_under (by omega)

theorem append_loop2 {f g fd : SlF} {R : Rows} {ws : List WinT} {w : WinT} {wi : Nat} {D : List Val} {Y : Rows} {V : AVal} (hY : NoN Y) (hYl : Y.length = R.length) (hD : D.length = R.length) (hn : R.length ≤ 300) (hYs : ∀ p ∈ Y, p.2.length ≤ 1000)
  (next : Run T (Res [.tmp 4, .tmp 5] V) (.code X35.c3 :: .inBlock 3 :: .inTrunc (R.length + 1) :: .code X35.c2 :: .inLoop X35.b1 :: X35.k1) (mkE 66 [(0, rowsA f R), (6, .ref 0 R.length 0 R.length 1), (31, winsA g ws), (32, .int .i64 ws.length), (33, .int .i64 wi), (46, rowA fd D), (47, .int .i64 D.length), (48, .int .i64 D.length)]) (stG Y ++ [winO w])) : ∀ i, i ≤ D.length →
  ∀ X : Rows, NoN X → X.length = R.length → (∀ (j : Nat) (h1 : j < X.length) (h2 : j < Y.length) (h3 : j < D.length), Y[j] = if j < i then X[j] else (.lst, X[j].2 ++ [D[j]])) →
  Run T (Res [.tmp 4, .tmp 5] V) (.inLoop X35.b2 :: X35.k2 (R.length + 1)) (mkE 66 [(0, rowsA f R), (6, .ref 0 R.length 0 R.length 1), (31, winsA g ws), (32, .int .i64 ws.length), (33, .int .i64 wi), (46, rowA fd D), (47, .int .i64 D.length), (48, .int .i64 i)]) (stG X ++ [winO w]) := by
 refine up_ind ?_ fun i hi ih => ?_
 ·intro X hX hXl hXY
  have e : X = Y := List.ext_getElem (by omega) fun j h1 h2 => by
   have := hXY j h1 h2 (by omega)
   rw [if_pos (by omega)] at this; exact this.symm
  subst e
  rw [run_round, run_unfold X35.b2.eq_1]
  simp (maxSteps := 2000000) only [go_sem, X35.k2]
  exact next
 ·intro X hX hXl hXY
  have hiX : i < X.length := by omega
  have hiY : i < Y.length := by omega
  have hiR : i < R.length := by omega
  have hlenX := objsG_len hX
  have hS0 : (stG X ++ [winO w])[0]? = some (.cells false (outsG 1 X)) := rfl
  have hSi : (stG X ++ [winO w])[i + 1]? = some (rowO X[i].2) := by
   rw [List.cons_append, List.getElem?_cons_succ, List.getElem?_append_left (by omega)]; exact objsG_at hX hiX
  have hSl : (stG X ++ [winO w]).length = R.length + 2 := by simp [hlenX]; omega
  have hol := outsG_len 1 X
  have hoi := outsG_at (k := 1) hX hiX
  generalize hS : stG X ++ [winO w] = S at hS0 hSi hSl
  rw [run_round, run_unfold X35.b2.eq_1]
  have h1 : ∀ a : AObj, (S ++ [a])[R.length + 2]? = some a := fun a => by rw [← hSl]; simp
  have h2 : ∀ a b : AObj, (S ++ [a]).set (R.length + 2) b = S ++ [b] := fun a b => by rw [← hSl]; simp
  have h3 : ∀ T : Sto, (S ++ T)[0]? = some (.cells false (outsG 1 X)) := fun T => by rw [List.getElem?_append_left (by omega)]; exact hS0
  have h4 : ∀ T : Sto, (S ++ T)[i + 1]? = some (rowO X[i].2) := fun T => by rw [List.getElem?_append_left (by omega)]; exact hSi
  have hoi' : (outsG 1 X)[i]? = some (refV (i + 1) X[i].2) := by rw [hoi, Nat.add_comm]
  have hoh : ((outsG 1 X).drop i).head? = some (refV (i + 1) X[i].2) := by rw [List.head?_drop]; exact hoi'
  have hla : loadA false 1 ((outsG 1 X).drop i) = some (refV (i + 1) X[i].2) := hoh
  have hiO : i < (outsG 1 X).length := by omega
  have hr1000 : X[i].2.length ≤ 1000 := by
   have := hXY i hiX hiY hi
   rw [if_neg (by omega)] at this
   have h5 := hYs _ (List.getElem_mem hiY)
   rw [this] at h5; simp at h5; omega
  have hX' : NoN (X.set i (.lst, X[i].2 ++ [D[i]])) := fun p hp => by
   rcases List.mem_or_eq_of_mem_set hp with hp | rfl
   ·exact hX p hp
   ·rfl
  have hpn : isN (SlF.lst, X[i].2 ++ [D[i]]) = false := rfl
  have hset := outsG_set (k := 1) hX hiX hpn
  have hsto := objsG_set hX hiX hpn
  have ha : ∀ a : AObj, appendV 3 32 (refV (i + 1) X[i].2) (.ref (S ++ [a]).length 3 0 1 3) (S ++ [a] ++ [.cells false [.int .i64 D[i].k, .int .i64 D[i].i, .str D[i].s]]) =
    some (refV (i + 1) (X[i].2 ++ [D[i]]), S.set (i + 1) (rowO (X[i].2 ++ [D[i]])) ++ [a] ++ [.cells false [.int .i64 D[i].k, .int .i64 D[i].i, .str D[i].s]]) := fun a => by
   rw [appendV_struct (o := i + 1) (o' := (S ++ [a]).length) (k := 3) (bytes := 32) (g := fun v : Val => [.int .i64 v.k, .int .i64 v.i, .str v.s]) (X := X[i].2) (y := D[i]) (by decide) (fun _ => rfl) (fun _ => rfl) (by rw [List.getElem?_append_left (by simp; omega)]; exact h4 [a]) (by simp) (by simp only [maxBytes]; omega)]
   rw [List.set_append_left _ _ (by simp; omega), List.set_append_left _ _ (by omega)]
  have hS' : (S.set (i + 1) (rowO (X[i].2 ++ [D[i]]))).set 0 (.cells false (outsG 1 (X.set i (.lst, X[i].2 ++ [D[i]])))) = stG (X.set i (.lst, X[i].2 ++ [D[i]])) ++ [winO w] := by
   rw [← hS, List.cons_append, List.set_cons_succ, List.set_cons_zero, List.set_append_left _ _ (by omega), ← hsto]; rfl
  have h5 : ∀ (a b : AObj), (S.set (i + 1) (rowO (X[i].2 ++ [D[i]])) ++ [a] ++ [b])[0]? = some (.cells false (outsG 1 X)) := fun a b => by
   rw [List.getElem?_append_left (by simp), List.getElem?_append_left (by simp; omega), List.getElem?_set_ne (by omega)]; exact hS0
  have h6 : ∀ (a b c : AObj), (S.set (i + 1) (rowO (X[i].2 ++ [D[i]])) ++ [a] ++ [b]).set 0 c = (S.set (i + 1) (rowO (X[i].2 ++ [D[i]]))).set 0 c ++ [a] ++ [b] := fun a b c => by
   rw [List.set_append_left _ _ (by simp), List.set_append_left _ _ (by simp; omega)]
  have hov : (outsG 1 X).take i ++ [refV (i + 1) (X[i].2 ++ [D[i]])] ++ (outsG 1 X).drop (i + 1) = outsG 1 (X.set i (.lst, X[i].2 ++ [D[i]])) := by
   rw [hset, Nat.add_comm 1 i, List.set_eq_take_append_cons_drop, if_pos hiO]; simp
  have hlX' : (X.set i (SlF.lst, X[i].2 ++ [D[i]])).length = R.length := by simp [hXl]
  have hl2 : (stG (X.set i (.lst, X[i].2 ++ [D[i]])) ++ [winO w]).length = R.length + 2 := by rw [← hS']; simp [hSl]
  have h7 : ∀ a b : AObj, (stG (X.set i (.lst, X[i].2 ++ [D[i]])) ++ [winO w] ++ [a] ++ [b]).take (R.length + 2) = stG (X.set i (.lst, X[i].2 ++ [D[i]])) ++ [winO w] := fun a b => by
   rw [← hl2, List.append_assoc, List.take_left']; rfl
  have h8 := stG_under (X := X.set i (.lst, X[i].2 ++ [D[i]])) (m := R.length + 2) (w := w) (by rw [hlX']; omega)
  have hi1 : i + 1 ≤ R.length := hiR
  have ih' := ih (X.set i (.lst, X[i].2 ++ [D[i]])) hX' hlX' fun j g1 g2 g3 => by
   have g1' : j < X.length := by simpa using g1
   have := hXY j g1' g2 g3
   rw [this, List.getElem_set]
   by_cases e : i = j
   ·subst e
    rw [if_neg (by omega), if_pos (by omega), if_pos rfl]
   ·rw [if_neg e]
    by_cases e2 : j < i
    ·rw [if_pos e2, if_pos (by omega)]
    ·rw [if_neg e2, if_neg (by omega)]
  generalize stG (X.set i (.lst, X[i].2 ++ [D[i]])) ++ [winO w] = S2 at hS' h7 h8 hl2 ih'
  simp (maxSteps := 2000000) only [go_sem, hi, hiR, hi1, hSl, h1, h2, h3, h4, h5, h6, hol, hXl, hla, ha, hov, hS', h7, h8, Nat.mul_one, Nat.zero_add, wrap_succ (show i < 9223372036854775807 by omega)]
  exact ih'

theorem computeR_cases (R : Rows) (w : WinT) : (∃ D, computeR w.kd w.c w.b w.o R = (some D, 0) ∧ D.length = R.length) ∨ ∃ e, computeR w.kd w.c w.b w.o R = (none, e) ∧ e ≠ 0 := by
 unfold computeR
 split
 ·split
  ·exact .inr ⟨6, rfl, by decide⟩
  ·rename_i h1 h2
   split
   ·rename_i D hD
    refine .inl ⟨D, rfl, ?_⟩
    obtain ⟨h1, _, _⟩ := compF_some _ _ _ _ hD (sortI_nodup _ _) (fun x hx => by rw [List.length_replicate]; exact sortI_in hx)
    rw [List.length_replicate] at h1; exact h1
   ·exact .inr ⟨2, rfl, by decide⟩
 ·exact .inr ⟨1, rfl, by decide⟩
theorem addCol_len {X : Rows} {D : List Val} (h : D.length = X.length) : (addCol X D).length = X.length := by simp [addCol, h]
theorem addCol_get {X : Rows} {D : List Val} {j : Nat} (h1 : j < X.length) (h2 : j < D.length) (h3 : j < (addCol X D).length) : (addCol X D)[j] = (.lst, X[j].2 ++ [D[j]]) := by simp [addCol]
theorem addCol_non {X : Rows} {D : List Val} : NoN (addCol X D) := fun p hp => by
 obtain ⟨j, hj, rfl⟩ := List.getElem_of_mem hp
 simp only [addCol, List.getElem_zipWith]; rfl

theorem comp_non {R : Rows} {w : WinT} {D : List Val} (h : computeR w.kd w.c w.b w.o R = (some D, 0)) : NoN R := fun p hp => by
 have hw : winOk w.kd w.c w.b w.o R = true := by
  cases hw : winOk w.kd w.c w.b w.o R with
  | true => rfl
  | false => rw [computeR, hw] at h; simp at h
 simp only [winOk, Bool.and_eq_true, decide_eq_true_eq] at hw
 have := (tab_in hw.2).1 p hp w.c (by simp)
 cases hn : isN p with
 | false => rfl
 | true => rw [isN_val hn] at this; simp at this; omega

theorem append_loop1 {f g : SlF} {R : Rows} {ws : List WinT} (hR : RowsFit R) (hws : ws.length ≤ 100) : ∀ i, i ≤ ws.length → ∀ X : Rows, (NoN R → NoN X) → X.length = R.length → (∀ p ∈ X, p.2.length + (ws.length - i) ≤ 1000) →
  Run T (Res [.tmp 4, .tmp 5] (appV (appendR R X (ws.drop i)))) (.inLoop X35.b1 :: X35.k1) (mkE 66 [(0, rowsA f R), (6, .ref 0 R.length 0 R.length 1), (31, winsA g ws), (32, .int .i64 ws.length), (33, .int .i64 i)]) (stG X) := by
 have hR3 := hR.1
 refine up_ind ?_ fun i hi ih => ?_
 ·intro X hX hXl hXs
  rw [run_round, run_unfold X35.b1.eq_1]
  have hs := snap_out (X := X) (T' := []) (m := 60)
  rw [List.append_nil, hXl] at hs
  simp (maxSteps := 2000000) only [go_sem, run_unfold X35.c0.eq_1, run_unfold X35.c1.eq_1, run_unfold X35.c2.eq_1, run_unfold X35.c3.eq_1, run_unfold X35.c4.eq_1, run_unfold X35.c5.eq_1, X35.k0, X35.k1, X35.k2, List.drop_length, appendR, appV, hs]
 ·intro X hX hXl hXs
  rw [run_round, run_unfold X35.b1.eq_1]
  rw [List.drop_eq_getElem_cons hi, appendR]
  have hcall := @X34_call f ws[i].fb ws[i].fo R ws[i].kd ws[i].c ws[i].b ws[i].o hR
  rcases computeR_cases R ws[i] with ⟨D, hc, hD⟩ | ⟨e, hc, he⟩
  ·have hX := hX (comp_non hc)
   have hlenX := objsG_len hX
   have hSl : (stG X).length = R.length + 1 := by simp [hlenX]; omega
   have h1 : ∀ a : AObj, (stG X ++ [a])[R.length + 1]? = some a := fun a => by rw [← hSl]; simp
   have h2 : ∀ a b : AObj, (stG X ++ [a]).set (R.length + 1) b = stG X ++ [b] := fun a b => by rw [← hSl]; simp
   rw [hc]
   rw [hc] at hcall
   have hl2 := append_loop2 (f := f) (g := g) (fd := .lst) (R := R) (ws := ws) (w := ws[i]) (wi := i) (D := D) (Y := addCol X D) (V := appV (appendR R (addCol X D) (ws.drop (i + 1)))) addCol_non (by rw [addCol_len (by omega), hXl]) hD hR3
    (fun p hp => by
     obtain ⟨j, hj, rfl⟩ := List.getElem_of_mem hp
     have hjX : j < X.length := by rw [addCol_len (by omega)] at hj; exact hj
     rw [addCol_get hjX (by omega)]
     have := hXs _ (List.getElem_mem hjX)
     simp; omega)
    (by
     have hlY := objsG_len (addCol_non (X := X) (D := D))
     have hYl : (addCol X D).length = R.length := by rw [addCol_len (by omega), hXl]
     have hSY : (stG (addCol X D)).length = R.length + 1 := by simp [hlY]; omega
     have ht : (stG (addCol X D) ++ [winO ws[i]]).take (R.length + 1) = stG (addCol X D) := by rw [← hSY, List.take_left']; rfl
     have hu := stG_under (X := addCol X D) (m := R.length + 1) (w := ws[i]) (by rw [hYl]; omega)
     rw [List.all_append, Bool.and_eq_true] at hu
     have hu1 := hu.1
     have ih' := ih (addCol X D) (fun _ => addCol_non) hYl fun p hp => by
      obtain ⟨j, hj, rfl⟩ := List.getElem_of_mem hp
      have hjX : j < X.length := by rw [addCol_len (by omega)] at hj; exact hj
      rw [addCol_get hjX (by omega)]
      have := hXs _ (List.getElem_mem hjX)
      simp; omega
     generalize stG (addCol X D) = S at ht hu1 ih' hSY ⊢
     simp (maxSteps := 2000000) only [go_sem, run_unfold X35.c0.eq_1, run_unfold X35.c1.eq_1, run_unfold X35.c2.eq_1, run_unfold X35.c3.eq_1, run_unfold X35.c4.eq_1, run_unfold X35.c5.eq_1, X35.k0, X35.k1, X35.k2, ht, hu1, wrap_succ (show i < 9223372036854775807 by omega)]
     exact ih') 0 (by omega) X hX hXl (fun j g1 g2 g3 => by rw [if_neg (by omega)]; exact addCol_get g1 g3 g2)
   generalize hS : stG X = S at *
   simp (maxSteps := 2000000) only [go_sem, hi, hSl, h1, h2, hcall, resV]
   exact hl2
  ·rw [hc]
   rw [hc] at hcall
   have h1 : ∀ a : AObj, (stG X ++ [a])[(stG X).length]? = some a := fun a => by simp
   have h2 : ∀ a b : AObj, (stG X ++ [a]).set (stG X).length b = stG X ++ [b] := fun a b => by simp
   generalize hS : stG X = S at h1 h2 ⊢
   simp (maxSteps := 2000000) only [go_sem, hi, h1, h2, hcall, resV, he, appV]

theorem X35_spec {f g : SlF} {l : Rows} {ws : List WinT} (hR : RowsFit l) (hsm : ∀ p ∈ l, p.2.length ≤ 500) (hws : ws.length ≤ 100) {lv : List Nat} {σ : Sto} {R : Post} : Cw T true i_X35 [rowsA f l, winsA g ws] lv σ R ↔ R (appV (appendR l l ws)) σ := by
 refine cw_intro T_X35 (by simp only [go_sem]) (by simp) ?_; rw [run_unfold X35.main.eq_1]
 have hR3 := hR.1
 have h1 := append_loop1 (f := f) (g := g) hR hws 0 (by omega) l id rfl fun p hp => by have := hsm p hp; omega
 have h0 := append_loop0 (f := f) (g := g) (ws := ws) hR (fun p hp => by have := hsm p hp; omega) (by
  rw [run_unfold X35.c4.eq_1]
  simp (maxSteps := 2000000) only [go_sem]
  exact h1) 0 (by omega)
 rw [List.take_zero, Nat.sub_zero] at h0
 have hz : (List.replicate l.length [AVal.nils]).flatten = List.replicate l.length .nils := by
  induction l.length with
  | zero => rfl
  | succ n ih => rw [List.replicate_succ, List.flatten_cons, ih, List.replicate_succ]; rfl
 simp (maxSteps := 2000000) only [go_sem, mk_gen (show l.length * 24 ≤ 100000000 by omega) (by decide), hz, Nat.mul_one]
 exact h0
@[go_sem] theorem X35_call {f g : SlF} {l : Rows} {ws : List WinT} (hR : RowsFit l) (hsm : ∀ p ∈ l, p.2.length ≤ 500) (hws : ws.length ≤ 100) {Q : Post3} {k : List Item} {os : List AOper} {d : Option Nat} {e : Env} {σ : Sto} : CallK T Q k os d e σ true i_X35 [rowsA f l, winsA g ws] ↔ Run T Q (.ops os :: k) (put e d (appV (appendR l l ws))) σ := X35_spec hR hsm hws


def appA (r : Option Rows × Int) : AVal := match r.1 with
 | some X => gotA .nil [] .nil [] .lst (clR X) r.2
 | none => gotA .nil [] .nil [] .nil [] r.2
theorem X42_spec {f g : SlF} {l : Rows} {ws : List WinT} (hR : RowsFit l) (hsm : ∀ p ∈ l, p.2.length ≤ 500) (hws : ws.length ≤ 100) {lv : List Nat} {σ : Sto} {R : Post} : Cw T true i_X42 [rowsA f l, winsA g ws] lv σ R ↔ R (appA (appendR l l ws)) σ := by
 refine cw_intro T_X42 (by simp only [go_sem]) (by simp) ?_; rw [run_unfold X42.main.eq_1]
 cases hr : appendR l l ws with
 | mk r e =>
  cases r with
  | none =>
   simp (maxSteps := 2000000) only [go_sem, X35_call hR hsm hws, hr, appV, appA]
   rfl
  | some X =>
   simp (maxSteps := 2000000) only [go_sem, X35_call hR hsm hws, hr, appV, appA]
   rfl
@[go_sem] theorem X42_call {f g : SlF} {l : Rows} {ws : List WinT} (hR : RowsFit l) (hsm : ∀ p ∈ l, p.2.length ≤ 500) (hws : ws.length ≤ 100) {Q : Post3} {k : List Item} {os : List AOper} {d : Option Nat} {e : Env} {σ : Sto} : CallK T Q k os d e σ true i_X42 [rowsA f l, winsA g ws] ↔ Run T Q (.ops os :: k) (put e d (appA (appendR l l ws))) σ := X42_spec hR hsm hws

end Go.Abs
/- Walks of chapter 42: orders of numbers. -/
set_option linter.unusedSimpArgs false
set_option linter.unusedVariables false
set_option maxRecDepth 100000
set_option maxHeartbeats 4000000
namespace Go.Abs
open Go
attribute [local go_sem_proc] Nat.reduceLT Nat.reduceEqDiff Nat.reduceLeDiff Nat.reduceAdd Nat.reduceSub Nat.reduceMul Int.reduceLT Int.reduceLE Int.reduceEq Int.reduceNeg
attribute [local go_sem_proc ↓] reduceIte

theorem set6 {x y z : AObj} {ρ : Sto} : (ρ ++ [x] ++ [y]).set ρ.length z = ρ ++ [z] ++ [y] := by simp
abbrev bytesV (f : SlF) (b : List Nat) : AVal := sv 1 f (b.map fun n : Nat => .int .u8 (n : Int))
abbrev cellI (n : Int) : List AVal := [.int .i64 n]
theorem cellI_len (n : Int) : (cellI n).length = 1 := rfl
theorem flat_cellI : ∀ (l : List Int), l.flatMap cellI = l.map fun n => .int .i64 n
 | [] => rfl
 | x :: l => by rw [List.flatMap_cons, flat_cellI l]; rfl
def posZ (b : List Nat) (i : Nat) : Nat := if i < b.length then b.getD i 0 % (i + 1) else i
def shufZ (b : List Nat) : Nat → Nat → List Int → List Int
 | 0, _, out => out
 | r + 1, i, out => shufZ b r (i + 1) (out.take (posZ b i) ++ (i : Int) :: out.drop (posZ b i))
theorem shufZ_perm {b : List Nat} : ∀ (r i : Nat) (out : List Int), out.Perm (upN i) → (shufZ b r i out).Perm (upN (i + r))
 | 0, i, out, h => h
 | r + 1, i, out, h => by
  rw [shufZ, show i + (r + 1) = i + 1 + r by omega]
  refine shufZ_perm r (i + 1) _ ?_
  rw [upN_succ]
  refine List.perm_middle.trans ?_
  rw [List.take_append_drop]
  exact (List.Perm.cons _ h).trans (List.perm_append_singleton _ _).symm

theorem X40_c3 {b : List Nat} {g : SlF} {out : List Int} {m i kk o : Nat} {σ : Sto} {Q : Post3} {K : List Item} (ho : out.length = i) (hk : kk ≤ i) (h100 : i ≤ 300) (hσ : σ[o]? = some (.cells false (out.flatMap cellI)))
  (next : ∀ (o' : Nat) (σ' : Sto), σ'[o']? = some (.cells false ((out.take kk ++ (i : Int) :: out.drop kk).flatMap cellI)) → Run T Q K (mkE 40 [(0, .int .i64 m), (1, bytesV g b), (5, .ref o' (i + 1) 0 (i + 1) 1), (6, .int .i64 i)]) σ') :
  Run T Q (.code X40.c3 :: K) (mkE 40 [(0, .int .i64 m), (1, bytesV g b), (5, .ref o i 0 i 1), (6, .int .i64 i), (7, .int .i64 kk)]) σ := by
 have one5 : ∀ y : Int, (cellI y).all AVal.one = true := fun y => rfl
 rw [run_unfold X40.c3.eq_1]
 have hlt : o < σ.length := (List.getElem?_eq_some_iff.1 hσ).1
 have hσ1 : (σ ++ [AObj.cells false []])[o]? = some (.cells false (out.flatMap cellI)) := by rw [List.getElem?_append_left hlt]; exact hσ
 obtain ⟨v1, a1, a2, a3, a4, a5⟩ := slice_live (k := 1) (lo := none) (hi := some (.int .i64 (kk : Int))) (l := 0) (h := kk) (by decide) cellI_len hσ1 rfl (by simp only [bnd, natOf_nat]) (by omega) (by omega)
 rw [ho, Nat.mul_one] at a1
 simp (maxSteps := 2000000) only [go_sem, a1]
 have r1 : rowOf (σ ++ [AObj.cells false []]) v1 = some (kk, (out.take kk).flatMap cellI) := by simpa using a2 rfl
 have l1 : (out.take kk).length = kk := by rw [List.length_take]; omega
 refine after_of (appendV_grow (o := σ.length) (len := 0) (gen := 0) (m := kk) (bytes := 8) (cs := []) (nl := false) (by simp) r1 rfl (by simp) (by rw [flatMap_len cellI_len, l1]) (by decide) (all_one_flat one5 _) (by unfold maxBytes; omega)) ?_
 simp (maxSteps := 2000000) only [go_sem, set_last, List.nil_append, Nat.mul_one, Nat.zero_add]
 have p2 := appendV_struct (k := 1) (bytes := 8) (X := out.take kk) (y := (i : Int)) (g := cellI) (σ := σ ++ [.cells false ((out.take kk).flatMap cellI)] ++ [.cells false (cellI i)]) (o := σ.length) (o' := (σ ++ [AObj.cells false ((out.take kk).flatMap cellI)]).length)
  (by decide) cellI_len one5 (by simp) (by simp) (by unfold maxBytes; omega)
 rw [l1, Nat.mul_one] at p2
 refine after_of p2 ?_
 have l2 : (out.take kk ++ [(i : Int)]).length = kk + 1 := by rw [List.length_append, l1]; rfl
 rw [set6, l2, Nat.mul_one]
 have hσ2 : (σ ++ [AObj.cells false ((out.take kk ++ [(i : Int)]).flatMap cellI)] ++ [AObj.cells false (cellI i)])[o]? = some (.cells false (out.flatMap cellI)) := by
  rw [List.append_assoc, List.getElem?_append_left hlt]; exact hσ
 obtain ⟨v2, b1, b2, b3, b4, b5⟩ := slice_live (k := 1) (lo := some (.int .i64 (kk : Int))) (hi := none) (l := kk) (h := out.length) (by decide) cellI_len hσ2 (by simp only [bnd, natOf_nat]) rfl (by omega) (by omega)
 rw [ho, Nat.mul_one] at b1
 simp (maxSteps := 2000000) only [go_sem, b1]
 have r2 : rowOf (σ ++ [AObj.cells false ((out.take kk ++ [(i : Int)]).flatMap cellI)] ++ [AObj.cells false (cellI i)]) v2 = some (i - kk, (out.drop kk).flatMap cellI) := by
  rw [b2 rfl, List.take_length, ho]
 have l3 : (out.drop kk).length = i - kk := by rw [List.length_drop, ho]
 refine after_of (appendV_grow (o := σ.length) (len := kk + 1) (gen := kk + 1) (m := i - kk) (bytes := 8) (cs := (out.take kk ++ [(i : Int)]).flatMap cellI) (nl := false) (by simp) r2 (by rw [flatMap_len cellI_len, l2, Nat.mul_one]) (by rw [Nat.mul_one]) (by rw [flatMap_len cellI_len, l3]) (by decide) (all_one_flat one5 _) (by unfold maxBytes; omega)) ?_
 rw [set6]
 have e2 : (out.take kk ++ [(i : Int)]).flatMap cellI ++ (out.drop kk).flatMap cellI = (out.take kk ++ (i : Int) :: out.drop kk).flatMap cellI := by rw [← List.flatMap_append, List.append_assoc]; rfl
 rw [e2, show kk + 1 + (i - kk) * 1 = i + 1 by omega, show kk + 1 + (i - kk) = i + 1 by omega]
 have n1 : σ.length ≠ o := by omega
 simp (maxSteps := 2000000) only [go_sem, List.all_cons, List.all_nil, Bool.and_true, a3, a4, a5, b3, b4, b5, n1, decide_true, Bool.not_false]
 refine ⟨by simp, ?_⟩
 have g1 : ∀ (x y : AObj), (σ ++ [x] ++ [y])[σ.length]? = some x := fun x y => by simp
 exact next σ.length (σ ++ [AObj.cells false ((out.take kk ++ (i : Int) :: out.drop kk).flatMap cellI)] ++ [AObj.cells false (cellI i)]) (g1 _ _)

theorem X40_loop {g : SlF} {m : Nat} {b : List Nat} (h100 : m ≤ 300) (hb : b.length < 9223372036854775808) (hb8 : ∀ n ∈ b, n < 256) : ∀ i, i ≤ m → ∀ out : List Int, out.length = i → ∀ (o : Nat) (σ : Sto), σ[o]? = some (.cells false (out.flatMap cellI)) →
  Run T (Res [.tmp 4] (ints .lst (shufZ b (m - i) i out))) (.inLoop X40.b0 :: X40.k0) (mkE 40 [(0, .int .i64 m), (1, bytesV g b), (5, .ref o i 0 i 1), (6, .int .i64 i)]) σ := by
 refine up_ind ?_ fun i hi ih => ?_
 ·intro out ho o σ hσ
  rw [run_round, run_unfold X40.b0.eq_1]
  rw [Nat.sub_self, shufZ]
  rw [flat_cellI] at hσ
  have hs := snap_ints (n := 62) hσ
  rw [ho] at hs
  simp (maxSteps := 2000000) only [go_sem, Nat.lt_irrefl, run_unfold X40.c0.eq_1, run_unfold X40.c1.eq_1, run_unfold X40.c2.eq_1, run_unfold X40.c3.eq_1, X40.k0, hs]
 ·intro out ho o σ hσ
  rw [run_round, run_unfold X40.b0.eq_1]
  rw [show m - i = m - (i + 1) + 1 by omega, shufZ]
  have hw := wrap_succ (show i < 9223372036854775807 by omega)
  have hple : posZ b i ≤ i := by
   unfold posZ; split
   ·have := Nat.mod_lt (b.getD i 0) (show 0 < i + 1 by omega); omega
   ·omega
  have step : Run T (Res [.tmp 4] (ints .lst (shufZ b (m - (i + 1)) (i + 1) (out.take (posZ b i) ++ (i : Int) :: out.drop (posZ b i)))))
    (.code X40.c3 :: .inBlock 1 :: .code X40.c2 :: .inLoop X40.b0 :: X40.k0) (mkE 40 [(0, .int .i64 m), (1, bytesV g b), (5, .ref o i 0 i 1), (6, .int .i64 i), (7, .int .i64 (posZ b i : Nat))]) σ := by
   refine X40_c3 ho hple (by omega) hσ fun o' σ' hσ' => ?_
   simp (maxSteps := 2000000) only [go_sem, run_unfold X40.c0.eq_1, run_unfold X40.c1.eq_1, run_unfold X40.c2.eq_1, run_unfold X40.c3.eq_1, X40.k0, hw]
   exact ih _ (by simp; omega) o' σ' hσ'
  by_cases hib : i < b.length
  ·have hn := hb8 b[i] (List.getElem_mem hib)
   have e1 := wrap_nat (show b[i] < 9223372036854775808 by omega)
   have e2 : Int.tmod (b[i] : Int) ((i + 1 : Nat) : Int) = ((b[i] % (i + 1) : Nat) : Int) := rfl
   have e3 : ¬ (((i + 1 : Nat) : Int) = 0) := by omega
   have ep : posZ b i = b[i] % (i + 1) := by unfold posZ; rw [if_pos hib, List.getD_eq_getElem?_getD, List.getElem?_eq_getElem hib]; rfl
   rw [ep] at step ⊢
   simp (maxSteps := 2000000) only [go_sem, hi, hib, hw, e1, e2, e3]
   exact step
  ·have ep : posZ b i = i := by unfold posZ; rw [if_neg hib]
   rw [ep] at step ⊢
   simp (maxSteps := 2000000) only [go_sem, hi, hib]
   exact step

theorem X40_spec {g : SlF} {m : Nat} {b : List Nat} (h100 : m ≤ 300) (hb : b.length < 9223372036854775808) (hb8 : ∀ n ∈ b, n < 256) {lv : List Nat} {σ : Sto} {R : Post} : Cw T true i_X40 [.int .i64 (m : Int), bytesV g b] lv σ R ↔ R (ints .lst (shufZ b m 0 [])) σ := by
 refine cw_intro T_X40 (by simp only [go_sem]) (by simp) ?_; rw [run_unfold X40.main.eq_1]
 simp (maxSteps := 2000000) only [go_sem]
 exact X40_loop (g := g) h100 hb hb8 0 (by omega) [] rfl 0 _ rfl
@[go_sem] theorem X40_call {g : SlF} {m : Nat} {b : List Nat} (h100 : m ≤ 300) (hb : b.length < 9223372036854775808) (hb8 : ∀ n ∈ b, n < 256) {Q : Post3} {k : List Item} {os : List AOper} {d : Option Nat} {e : Env} {σ : Sto} : CallK T Q k os d e σ true i_X40 [.int .i64 (m : Int), bytesV g b] ↔ Run T Q (.ops os :: k) (put e d (ints .lst (shufZ b m 0 []))) σ := X40_spec h100 hb hb8

end Go.Abs
/- The plain law of windows: values along the order of partitions and rows. -/
set_option linter.unusedSimpArgs false
set_option linter.unusedVariables false
namespace Go.Abs
open Go

theorem comp_at' {kd c : Int} {b o : List Int} {R : Rows} {D : List Val} (hR : computeR kd c b o R = (some D, 0)) : D.length = R.length ∧
  ∀ x : Int, 0 ≤ x ∧ x < R.length → ∃ A : List Int, A = ((sortI R o).filter fun y => decide (gdZ (partI R b) y = gdZ (partI R b) x)).take A.length ∧
   ((sortI R o).filter fun y => decide (gdZ (partI R b) y = gdZ (partI R b) x))[A.length]? = some x ∧ D[x.toNat]? = some (nextS kd c o (A.foldl (stepS kd c o R) St0) (rowP R x)).2.1 := by
 have hw : winOk kd c b o R = true := by
  cases h : winOk kd c b o R with
  | true => rfl
  | false => rw [computeR, h] at hR; simp at hR
 have hodd : ¬ (kd = 3 ∧ (R.any fun p => oddC c p.2) = true) := fun h => by
  rw [computeR, if_pos hw, if_pos h] at hR; simp at hR
 rw [computeR, if_pos hw, if_neg hodd] at hR
 obtain ⟨D0, hD⟩ : ∃ D0, compF kd c o R (gdZ (partI R b)) (fun _ => St0) (sortI R o) (List.replicate R.length zV) = some D0 := by
  cases h : compF kd c o R (gdZ (partI R b)) (fun _ => St0) (sortI R o) (List.replicate R.length zV) with
  | some D0 => exact ⟨D0, rfl⟩
  | none => rw [h] at hR; simp at hR
 rw [hD] at hR
 obtain rfl : D0 = D := by simpa using hR
 obtain ⟨h1, _, h3⟩ := compF_some _ _ _ _ hD (sortI_nodup R o) (fun x hx => by rw [List.length_replicate]; exact sortI_in hx)
 rw [List.length_replicate] at h1
 refine ⟨h1, fun x hx => ?_⟩
 obtain ⟨k, hk', hkx⟩ := List.getElem_of_mem (sortI_mem (by_ := o) hx)
 have h4 := h3 k hk'
 rw [hkx] at h4
 refine ⟨aheadP (gdZ (partI R b)) (sortI R o) k x, ?_, ?_, h4⟩
 ·exact filter_take
 ·have := filter_at (q := fun y => decide (gdZ (partI R b) y = gdZ (partI R b) x)) hk' (by rw [hkx]; simp)
  rw [hkx] at this; exact this

theorem cmpR_app : ∀ (x u v : List Val), cmpR (x ++ u) (x ++ v) = cmpR u v
 | [], _, _ => rfl
 | a :: x, u, v => by rw [List.cons_append, List.cons_append, cmpR, if_pos (cmpV_zero.2 rfl), cmpR_app x]
theorem cmpI_app {R : Rows} {b o : List Int} {x y : Int} (h : keyI R b x = keyI R b y) : cmpI R (b ++ o) x y = cmpI R o x y := by
 unfold cmpI
 have e : ∀ r, pickC r (b ++ o) = pickC r b ++ pickC r o := fun r => by simp [pickC]
 unfold keyI at h
 rw [e, e, h, cmpR_app]
theorem cmpR_pre : ∀ {x y u v : List Val}, x.length = y.length → cmpR (x ++ u) (y ++ v) ≤ 0 → cmpR x y ≤ 0
 | [], [], _, _, _, _ => by simp [cmpR]
 | [], _ :: _, _, _, h, _ => by simp at h
 | _ :: _, [], _, _, h, _ => by simp at h
 | a :: x, b :: y, u, v, h, hc => by
  simp only [List.cons_append, cmpR] at hc ⊢
  by_cases e : cmpV a b = 0
  ·rw [if_pos e] at hc ⊢; exact cmpR_pre (by simpa using h) hc
  ·rw [if_neg e] at hc ⊢; exact hc
theorem sortI_lt (R : Rows) (o : List Int) : (sortI R o).Pairwise (fun a b => ltI R o a b = true) := by
 have h1 := sortI_pair R o
 have h2 := sortI_nodup R o
 refine (List.Pairwise.and h1 h2).imp fun {a b} ⟨hab, hne⟩ => ?_
 have hz : cmpI R o a b ≠ 0 := fun h => hne (cmpI_zero.1 h)
 simp only [ltI, decide_eq_true_eq]; omega

theorem filter_both {R : Rows} {b o : List Int} {key : List Val} : (sortI R (b ++ o)).filter (fun y => decide (keyI R b y = key)) = (sortI R o).filter (fun y => decide (keyI R b y = key)) := by
 refine strict_unique (r := ltI R o) (p := fun _ => True) (fun a b _ _ h => (ltI_tot R o (fun _ => True)).asym a b trivial trivial h) (fun _ _ => trivial) (fun x => ?_) ?_ ((sortI_lt R o).filter _)
 ·simp only [List.mem_filter]
  constructor
  ·rintro ⟨h1, h2⟩; exact ⟨sortI_mem (sortI_in h1), h2⟩
  ·rintro ⟨h1, h2⟩; exact ⟨sortI_mem (sortI_in h1), h2⟩
 ·refine (List.Pairwise.and_mem.1 ((sortI_lt R (b ++ o)).filter _)).imp fun {x y} ⟨hx, hy, hxy⟩ => ?_
  have h1 := of_decide_eq_true (List.mem_filter.1 hx).2
  have h2 := of_decide_eq_true (List.mem_filter.1 hy).2
  simp only [ltI, decide_eq_true_eq] at hxy ⊢
  rwa [cmpI_app (h1.trans h2.symm)] at hxy

def aheadK (R : Rows) (b : List Int) (s : List Int) (i : Nat) : List Int := (s.take i).filter fun y => decide (keyI R b y = keyI R b (s.getD i 0))

theorem comp_along {kd c : Int} {b o : List Int} {R : Rows} {D : List Val} (hR : computeR kd c b o R = (some D, 0)) {i : Nat} (hi : i < (sortI R (b ++ o)).length) :
  D[((sortI R (b ++ o))[i]).toNat]? = some (nextS kd c o ((aheadK R b (sortI R (b ++ o)) i).foldl (stepS kd c o R) St0) (rowP R (sortI R (b ++ o))[i])).2.1 := by
 have hx := sortI_in (List.getElem_mem hi)
 obtain ⟨A, h1, h2, h3⟩ := (comp_at' hR).2 _ hx
 have hg : (sortI R (b ++ o)).getD i 0 = (sortI R (b ++ o))[i] := by rw [List.getD_eq_getElem?_getD, List.getElem?_eq_getElem hi]; rfl
 generalize hxe : (sortI R (b ++ o))[i] = x at hx h1 h2 h3 hg
 have hf : ((sortI R o).filter fun y => decide (gdZ (partI R b) y = gdZ (partI R b) x)) = (sortI R (b ++ o)).filter fun y => decide (keyI R b y = keyI R b x) := by
  rw [filter_both]
  refine List.filter_congr fun y hy => decide_eq_decide.2 (partI_law (sortI_in hy) hx)
 rw [hf] at h1 h2
 have hat := filter_at (q := fun y => decide (keyI R b y = keyI R b x)) hi (by rw [hxe]; simp)
 have hnd : ((sortI R (b ++ o)).filter fun y => decide (keyI R b y = keyI R b x)).Nodup := (sortI_nodup R _).filter _
 have hl : A.length = (((sortI R (b ++ o)).take i).filter fun y => decide (keyI R b y = keyI R b x)).length := by
  obtain ⟨hA, eA⟩ := List.getElem?_eq_some_iff.1 h2
  obtain ⟨hB, eB⟩ := List.getElem?_eq_some_iff.1 hat
  rw [hxe] at eB
  rcases Nat.lt_trichotomy A.length (((sortI R (b ++ o)).take i).filter fun y => decide (keyI R b y = keyI R b x)).length with h | h | h
  ·exact absurd (eA.trans eB.symm) (List.pairwise_iff_getElem.1 hnd _ _ hA hB h)
  ·exact h
  ·exact absurd (eB.trans eA.symm) (List.pairwise_iff_getElem.1 hnd _ _ hB hA h)
 have hAe : A = aheadK R b (sortI R (b ++ o)) i := by
  refine h1.trans ?_
  unfold aheadK
  rw [hl, hg, ← filter_take (k := i)]
 rw [h3, hAe]

theorem ahead_zero {R : Rows} {b s : List Int} : aheadK R b s 0 = [] := rfl
theorem ahead_len {R : Rows} {b s : List Int} {i : Nat} : (aheadK R b s i).length ≤ i := by
 unfold aheadK
 have := List.length_filter_le (fun y => decide (keyI R b y = keyI R b (s.getD i 0))) (s.take i)
 rw [List.length_take] at this; omega
theorem ahead_eq {R : Rows} {b s : List Int} {i : Nat} (hi : i + 1 < s.length) (h : keyI R b s[i] = keyI R b s[i + 1]) : aheadK R b s (i + 1) = aheadK R b s i ++ [s[i]] := by
 unfold aheadK
 rw [List.getD_eq_getElem?_getD, List.getElem?_eq_getElem hi, List.getD_eq_getElem?_getD, List.getElem?_eq_getElem (show i < s.length by omega), Option.getD_some, Option.getD_some, List.take_add_one, List.getElem?_eq_getElem (show i < s.length by omega), List.filter_append, h]
 simp [h]
theorem ahead_ne {R : Rows} {b o : List Int} {i : Nat} (hi : i + 1 < (sortI R (b ++ o)).length) (h : ¬ keyI R b (sortI R (b ++ o))[i] = keyI R b (sortI R (b ++ o))[i + 1]) : aheadK R b (sortI R (b ++ o)) (i + 1) = [] := by
 have hkey : ∀ {x y : Int}, cmpI R (b ++ o) x y ≤ 0 → cmpR (keyI R b x) (keyI R b y) ≤ 0 := fun {x y} hxy => by
  have h1 := cmpI_key hxy
  have e : ∀ r, pickC r (b ++ o) = pickC r b ++ pickC r o := fun r => by simp [pickC]
  unfold keyI at h1 ⊢
  rw [e, e] at h1
  exact cmpR_pre (by rw [pickC_len, pickC_len]) h1
 have hp := List.pairwise_iff_getElem.1 (sortI_pair R (b ++ o))
 unfold aheadK
 rw [List.getD_eq_getElem?_getD, List.getElem?_eq_getElem hi, Option.getD_some, List.filter_eq_nil_iff]
 intro y hy
 obtain ⟨j, hj, rfl⟩ := List.getElem_of_mem hy
 rw [List.length_take] at hj
 rw [List.getElem_take]
 simp only [decide_eq_true_eq]
 intro he
 rcases Nat.lt_or_ge j i with hji | hji
 ·have g1 := hkey (hp j i (by omega) (by omega) hji)
  have g2 := hkey (hp i (i + 1) (by omega) hi (by omega))
  have := (cmpR_trans g1 g2).2 (by rw [he]; exact cmpR_zero.2 rfl)
  exact h (cmpR_zero.1 this.2)
 ·have : j = i := by omega
  subst this
  exact h he

def numAt (R : Rows) (b s : List Int) (i : Nat) : Nat := (aheadK R b s i).length + 1
def rankAt (R : Rows) (c : Int) (b o s : List Int) (i : Nat) : Int := (nextS 2 c o ((aheadK R b s i).foldl (stepS 2 c o R) St0) (rowP R (s.getD i 0))).1.rank

theorem nextS_rank {kd c : Int} {o : List Int} {s : St} {fr : SlF × List Val} : (nextS kd c o s fr).1.rank = if isPeer o s.last fr.2 = true then s.rank else IntKind.i64.wrap (s.n + 1) := by
 unfold nextS
 dsimp only
 repeat' split
 all_goals first | rfl | (exfalso; simp_all; done)
theorem cmpV_num {a b : Int} (h1 : 0 ≤ a) (h2 : a ≤ b) (h3 : b ≤ 1000) : ¬ 0 < cmpV (numV a) (numV b) := by
 have ea : (numV a).i = a * 1000000 := wrap_i64 (by omega) (by omega)
 have eb : (numV b).i = b * 1000000 := wrap_i64 (by omega) (by omega)
 by_cases e : a = b
 ·subst e; rw [cmpV_zero.2 rfl]; omega
 ·unfold cmpV
  rw [if_pos (show (numV a).k = (numV b).k from rfl), ea, eb, if_neg (by omega)]
  unfold sgn
  rw [if_pos (by omega)]; omega

theorem rank_zero {R : Rows} {c : Int} {b o s : List Int} {i : Nat} (h : aheadK R b s i = []) : rankAt R c b o s i = 1 := by
 unfold rankAt
 rw [h, List.foldl_nil, nextS_rank]
 rfl
theorem rank_step {R : Rows} {c : Int} {b o s : List Int} {i : Nat} (hi : i + 1 < s.length) (hb : s.length < 1000) (h : keyI R b s[i] = keyI R b s[i + 1]) :
  rankAt R c b o s (i + 1) = if keyI R o s[i] = keyI R o s[i + 1] then rankAt R c b o s i else (numAt R b s (i + 1) : Nat) := by
 have g1 : s.getD i 0 = s[i] := by rw [List.getD_eq_getElem?_getD, List.getElem?_eq_getElem (by omega)]; rfl
 have g2 : s.getD (i + 1) 0 = s[i + 1] := by rw [List.getD_eq_getElem?_getD, List.getElem?_eq_getElem hi]; rfl
 have hn : ((aheadK R b s (i + 1)).foldl (stepS 2 c o R) St0).n = ((aheadK R b s (i + 1)).length : Nat) := by
  have := ahead_len (R := R) (b := b) (s := s) (i := i + 1)
  have := fold_n (kd := 2) (c := c) (ord := o) (l := R) (aheadK R b s (i + 1)) St0 0 rfl (by omega)
  rw [this, Nat.zero_add]
 have hl : ((aheadK R b s (i + 1)).foldl (stepS 2 c o R) St0).last = some (rowP R s[i]) := by
  rw [fold_last, ahead_eq hi h, List.getLast?_append]; rfl
 have hr : ((aheadK R b s (i + 1)).foldl (stepS 2 c o R) St0).rank = rankAt R c b o s i := by
  rw [ahead_eq hi h, List.foldl_append]
  unfold rankAt
  rw [g1]; rfl
 unfold rankAt at hr ⊢
 rw [nextS_rank, hl, hn, g2]
 have hlen := ahead_len (R := R) (b := b) (s := s) (i := i + 1)
 have hw : IntKind.i64.wrap (((aheadK R b s (i + 1)).length : Int) + 1) = (numAt R b s (i + 1) : Nat) := by
  rw [wrap_i64 (by omega) (by omega)]; rfl
 rw [hw]
 by_cases e : keyI R o s[i] = keyI R o s[i + 1]
 ·rw [if_pos (show isPeer o (some (rowP R s[i])) (rowP R s[i + 1]).2 = true from decide_eq_true e), if_pos e, hr]
 ·rw [if_neg (show ¬ isPeer o (some (rowP R s[i])) (rowP R s[i + 1]).2 = true from fun h => e (of_decide_eq_true h)), if_neg e]

theorem rank_le {R : Rows} {c : Int} {b o : List Int} (hb : (sortI R (b ++ o)).length < 1000) : ∀ i, i < (sortI R (b ++ o)).length → 1 ≤ rankAt R c b o (sortI R (b ++ o)) i ∧ rankAt R c b o (sortI R (b ++ o)) i ≤ (numAt R b (sortI R (b ++ o)) i : Nat)
 | 0, h => by rw [rank_zero ahead_zero]; unfold numAt; rw [ahead_zero]; simp
 | i + 1, h => by
  have ih := rank_le (c := c) hb i (by omega)
  by_cases e : keyI R b (sortI R (b ++ o))[i] = keyI R b (sortI R (b ++ o))[i + 1]
  ·have hn : numAt R b (sortI R (b ++ o)) (i + 1) = numAt R b (sortI R (b ++ o)) i + 1 := by unfold numAt; rw [ahead_eq h e]; simp
   rw [rank_step h hb e]
   split <;> omega
  ·have := ahead_ne h e
   rw [rank_zero this]; unfold numAt; rw [this]; simp

theorem num_law {c c' : Int} {b o : List Int} {R : Rows} {D1 D2 : List Val} (hR : R.length ≤ 300) (h1 : computeR 1 c b o R = (some D1, 0)) (h2 : computeR 2 c' b o R = (some D2, 0)) :
  ∃ (N : Nat → Nat) (K : Nat → Int), N 0 = 1 ∧ K 0 = 1 ∧ (∀ (i : Nat) (hi : i < (sortI R (b ++ o)).length), D1[((sortI R (b ++ o))[i]).toNat]? = some (numV (N i)) ∧ D2[((sortI R (b ++ o))[i]).toNat]? = some (numV (K i)) ∧ (¬ 0 < cmpV (numV (K i)) (numV (N i))) ∧ 1 ≤ N i ∧ N i ≤ 300) ∧
   (∀ (i : Nat) (hi : i + 1 < (sortI R (b ++ o)).length), keyI R b (sortI R (b ++ o))[i] = keyI R b (sortI R (b ++ o))[i + 1] → N (i + 1) = N i + 1 ∧ K (i + 1) = if keyI R o (sortI R (b ++ o))[i] = keyI R o (sortI R (b ++ o))[i + 1] then K i else (N (i + 1) : Nat)) ∧
   (∀ (i : Nat) (hi : i + 1 < (sortI R (b ++ o)).length), ¬ keyI R b (sortI R (b ++ o))[i] = keyI R b (sortI R (b ++ o))[i + 1] → N (i + 1) = 1 ∧ K (i + 1) = 1) := by
 have hlen := sortI_len R (b ++ o)
 refine ⟨numAt R b (sortI R (b ++ o)), rankAt R c' b o (sortI R (b ++ o)), rfl, rank_zero ahead_zero, fun i hi => ?_, fun i hi e => ?_, fun i hi e => ?_⟩
 ·have ha := ahead_len (R := R) (b := b) (s := sortI R (b ++ o)) (i := i)
  have hr := rank_le (R := R) (c := c') (b := b) (o := o) (by omega) i hi
  refine ⟨?_, ?_, cmpV_num (by omega) hr.2 (by unfold numAt; omega), by unfold numAt; omega, by unfold numAt; omega⟩
  ·rw [comp_along h1 hi, num_val (by omega)]; rfl
  ·rw [comp_along h2 hi]
   unfold rankAt
   have g1 : (sortI R (b ++ o)).getD i 0 = (sortI R (b ++ o))[i] := by rw [List.getD_eq_getElem?_getD, List.getElem?_eq_getElem hi]; rfl
   rw [g1]; rfl
 ·exact ⟨by unfold numAt; rw [ahead_eq hi e]; simp, rank_step hi (by omega) e⟩
 ·have := ahead_ne hi e
  exact ⟨by unfold numAt; rw [this]; rfl, rank_zero this⟩

def addS (p v : Val) : Val := if v.k = 2 then ⟨2, p.i + v.i, p.s⟩ else p
def Sum0 (p : Val) : Prop := p = zV ∨ (p.k = 2 ∧ p.s = ⟨#[]⟩)
theorem Sum0.add {p v : Val} (h : Sum0 p) : Sum0 (addS p v) := by
 unfold addS
 split
 ·refine .inr ⟨rfl, ?_⟩
  rcases h with rfl | h
  ·rfl
  ·exact h.2
 ·exact h
theorem nextS_sum3 {c : Int} {o : List Int} {s : St} {fr : SlF × List Val} (h1 : -1000000000000 ≤ s.sum.i) (h2 : s.sum.i ≤ 1000000000000) (h3 : -10000000 ≤ (colN fr.2 c).i) (h4 : (colN fr.2 c).i ≤ 10000000) :
  (nextS 3 c o s fr).1.sum = addS s.sum (colN fr.2 c) ∧ (nextS 3 c o s fr).2.1 = addS s.sum (colN fr.2 c) := by
 have hw : IntKind.i64.wrap (s.sum.i + (colN fr.2 c).i) = s.sum.i + (colN fr.2 c).i := wrap_i64 (by omega) (by omega)
 unfold nextS addS
 dsimp only
 rw [if_neg (by decide), if_neg (by decide), if_neg (by decide), hw]
 by_cases e : (colN fr.2 c).k = 2
 ·rw [if_pos e, if_pos e, if_neg (by omega)]
  exact ⟨rfl, rfl⟩
 ·rw [if_neg e, if_neg e]
  exact ⟨rfl, rfl⟩
theorem fold_sum0 {c : Int} {o : List Int} {R : Rows} : ∀ (L : List Int) (st : St) (m : Nat), (∀ y ∈ L, -10000000 ≤ (colN (rowN R y) c).i ∧ (colN (rowN R y) c).i ≤ 10000000) → -10000000 * (m : Int) ≤ st.sum.i → st.sum.i ≤ 10000000 * (m : Int) → m + L.length ≤ 1000 → Sum0 st.sum → Sum0 (L.foldl (stepS 3 c o R) st).sum
 | [], st, m, _, _, _, _, h => h
 | y :: L, st, m, h, h1, h2, hb, h0 => by
  simp only [List.length_cons] at hb
  have hy := h y (by simp)
  have hs := (nextS_sum3 (c := c) (o := o) (s := st) (fr := rowP R y) (by omega) (by omega) (by rw [rowP_snd]; exact hy.1) (by rw [rowP_snd]; exact hy.2)).1
  have hs' := fold_sum (c := c) (o := o) (R := R) [y] st m (fun z hz => by rw [List.mem_singleton.1 hz]; exact hy) h1 h2 (by simp; omega)
  rw [List.foldl_cons]
  exact fold_sum0 L _ (m + 1) (fun z hz => h z (by simp [hz])) hs'.1 hs'.2 (by omega) (by unfold stepS; rw [hs]; exact h0.add)
def sumAt (R : Rows) (c : Int) (b o s : List Int) (i : Nat) : Val := addS ((aheadK R b s i).foldl (stepS 3 c o R) St0).sum (colN (rowN R (s.getD i 0)) c)

theorem sum_law {c : Int} {b o : List Int} {R : Rows} {D : List Val} (hR : R.length ≤ 300) (h1 : computeR 3 c b o R = (some D, 0)) (hc : ∀ x : Int, 0 ≤ x ∧ x < R.length → -10000000 ≤ (colN (rowN R x) c).i ∧ (colN (rowN R x) c).i ≤ 10000000) :
  ∃ S : Nat → Val, (∀ (i : Nat) (hi : i < (sortI R (b ++ o)).length), D[((sortI R (b ++ o))[i]).toNat]? = some (S i) ∧ Sum0 (S i) ∧ -1000000000000 ≤ (S i).i ∧ (S i).i ≤ 1000000000000) ∧
   (∀ h : 0 < (sortI R (b ++ o)).length, S 0 = addS zV (colN (rowN R (sortI R (b ++ o))[0]) c)) ∧
   (∀ (i : Nat) (hi : i + 1 < (sortI R (b ++ o)).length), keyI R b (sortI R (b ++ o))[i] = keyI R b (sortI R (b ++ o))[i + 1] → S (i + 1) = addS (S i) (colN (rowN R (sortI R (b ++ o))[i + 1]) c)) ∧
   (∀ (i : Nat) (hi : i + 1 < (sortI R (b ++ o)).length), ¬ keyI R b (sortI R (b ++ o))[i] = keyI R b (sortI R (b ++ o))[i + 1] → S (i + 1) = addS zV (colN (rowN R (sortI R (b ++ o))[i + 1]) c)) := by
 have hlen := sortI_len R (b ++ o)
 have hget : ∀ {i : Nat} (hi : i < (sortI R (b ++ o)).length), (sortI R (b ++ o)).getD i 0 = (sortI R (b ++ o))[i] := fun {i} hi => by rw [List.getD_eq_getElem?_getD, List.getElem?_eq_getElem hi]; rfl
 have hin : ∀ {i : Nat}, ∀ y ∈ aheadK R b (sortI R (b ++ o)) i, -10000000 ≤ (colN (rowN R y) c).i ∧ (colN (rowN R y) c).i ≤ 10000000 := fun {i} y hy => hc y (sortI_in (List.mem_of_mem_take (List.mem_filter.1 hy).1))
 have hfold : ∀ {i : Nat}, i < (sortI R (b ++ o)).length → (-3000000000 ≤ ((aheadK R b (sortI R (b ++ o)) i).foldl (stepS 3 c o R) St0).sum.i ∧ ((aheadK R b (sortI R (b ++ o)) i).foldl (stepS 3 c o R) St0).sum.i ≤ 3000000000) ∧ Sum0 ((aheadK R b (sortI R (b ++ o)) i).foldl (stepS 3 c o R) St0).sum := fun {i} hi => by
  have ha := ahead_len (R := R) (b := b) (s := sortI R (b ++ o)) (i := i)
  have h2 := fold_sum (c := c) (o := o) (R := R) (aheadK R b (sortI R (b ++ o)) i) St0 0 hin (by decide) (by decide) (by omega)
  exact ⟨by omega, fold_sum0 _ St0 0 hin (by decide) (by decide) (by omega) (.inl rfl)⟩
 have hcol : ∀ {i : Nat} (hi : i < (sortI R (b ++ o)).length), -10000000 ≤ (colN (rowN R (sortI R (b ++ o))[i]) c).i ∧ (colN (rowN R (sortI R (b ++ o))[i]) c).i ≤ 10000000 := fun {i} hi => hc _ (sortI_in (List.getElem_mem hi))
 refine ⟨sumAt R c b o (sortI R (b ++ o)), fun i hi => ?_, fun h => ?_, fun i hi e => ?_, fun i hi e => ?_⟩
 ·have h2 := hfold hi
  have h3 := hcol hi
  have h4 := nextS_sum3 (c := c) (o := o) (s := (aheadK R b (sortI R (b ++ o)) i).foldl (stepS 3 c o R) St0) (fr := rowP R (sortI R (b ++ o))[i]) (by omega) (by omega) (by rw [rowP_snd]; exact h3.1) (by rw [rowP_snd]; exact h3.2)
  rw [rowP_snd] at h4
  refine ⟨?_, h2.2.add, ?_⟩
  ·rw [comp_along h1 hi, h4.2]; unfold sumAt; rw [hget hi]
  ·unfold sumAt addS
   rw [hget hi]
   split
   ·simp only; omega
   ·omega
 ·unfold sumAt; rw [ahead_zero, hget h]; rfl
 ·have hi' : i < (sortI R (b ++ o)).length := by omega
  have h2 := hfold hi'
  have h3 := hcol hi'
  have h4 := nextS_sum3 (c := c) (o := o) (s := (aheadK R b (sortI R (b ++ o)) i).foldl (stepS 3 c o R) St0) (fr := rowP R (sortI R (b ++ o))[i]) (by omega) (by omega) (by rw [rowP_snd]; exact h3.1) (by rw [rowP_snd]; exact h3.2)
  rw [rowP_snd] at h4
  unfold sumAt
  rw [hget hi, hget hi', ahead_eq hi e, List.foldl_append, List.foldl_cons, List.foldl_nil]
  unfold stepS
  rw [h4.1]
 ·unfold sumAt; rw [ahead_ne hi e, hget hi]; rfl
end Go.Abs
/- The plain law of windows: the rows' order does not matter. -/
set_option linter.unusedSimpArgs false
set_option linter.unusedVariables false
namespace Go.Abs
open Go

def along (R : Rows) (o : List Int) : Rows := (sortI R o).map (rowP R)
theorem map_rowP (R : Rows) : (upN R.length).map (rowP R) = R := by
 apply List.ext_getElem (by simp [upN_len])
 intro i h1 h2
 rw [List.getElem_map, upN_get]
 unfold rowP
 rw [Int.toNat_natCast, List.getD_eq_getElem?_getD, List.getElem?_eq_getElem h2]; rfl
theorem along_perm (R : Rows) (o : List Int) : (along R o).Perm R := by
 have := ((isort_perm (ltI R o) (upN R.length)).map (rowP R))
 rw [map_rowP] at this
 exact this
theorem along_len (R : Rows) (o : List Int) : (along R o).length = R.length := by simp [along, sortI_len]
def leO (o : List Int) (p q : SlF × List Val) : Prop := if cmpR (pickC p.2 o) (pickC q.2 o) = 0 then cmpR p.2 q.2 ≤ 0 else cmpR (pickC p.2 o) (pickC q.2 o) ≤ 0
theorem along_sorted (R : Rows) (o : List Int) : (along R o).Pairwise (leO o) := by
 unfold along
 rw [List.pairwise_map]
 refine (sortI_pair R o).imp fun {a b} h => ?_
 unfold leO
 rw [rowP_snd, rowP_snd]
 simp only [cmpI, firstN3] at h
 by_cases e : cmpR (pickC (rowN R a) o) (pickC (rowN R b) o) = 0
 ·rw [if_pos e] at h ⊢
  by_cases e2 : cmpR (rowN R a) (rowN R b) = 0
  ·omega
  ·rw [if_neg e2] at h; exact h
 ·rw [if_neg e] at h ⊢; exact h
theorem leO_anti {o : List Int} {p q : SlF × List Val} (h1 : leO o p q) (h2 : leO o q p) : p.2 = q.2 := by
 unfold leO at h1 h2
 rw [cmpR_anti (pickC p.2 o) (pickC q.2 o), cmpR_anti p.2 q.2] at h2
 by_cases e : cmpR (pickC p.2 o) (pickC q.2 o) = 0
 ·rw [if_pos e] at h1
  rw [if_pos (by omega)] at h2
  exact cmpR_zero.1 (by omega)
 ·rw [if_neg e] at h1
  rw [if_neg (by omega)] at h2
  omega
theorem along_eq {R R' : Rows} {o : List Int} (h : R.Perm R') (hf : ∀ p ∈ R, p.1 = .lst) : along R o = along R' o := by
 refine List.Perm.eq_of_pairwise (le := leO o) (fun a b ha hb h1 h2 => ?_) (along_sorted R o) (along_sorted R' o) (((along_perm R o).trans h).trans (along_perm R' o).symm)
 have ha' := hf a ((along_perm R o).mem_iff.1 ha)
 have hb' := hf b (h.mem_iff.2 ((along_perm R' o).mem_iff.1 hb))
 have := leO_anti h1 h2
 obtain ⟨f, r⟩ := a
 obtain ⟨g, r'⟩ := b
 simp only at ha' hb' this
 rw [ha', hb', this]

def valP (kd c : Int) (b o : List Int) (L : Rows) (k : Nat) : Val := (nextS kd c o (((L.take k).filter fun p => decide (pickC p.2 b = pickC (rowP L k).2 b)).foldl (fun st p => (nextS kd c o st p).1) St0) (rowP L k)).2.1
theorem comp_row {kd c : Int} {b o : List Int} {R : Rows} {D : List Val} (hR : computeR kd c b o R = (some D, 0)) {k : Nat} (hk : k < (sortI R o).length) : D[((sortI R o)[k]).toNat]? = some (valP kd c b o (along R o) k) := by
 have hx := sortI_in (List.getElem_mem hk)
 obtain ⟨A, h1, h2, h3⟩ := (comp_at' hR).2 _ hx
 have hg : rowP (along R o) k = rowP R (sortI R o)[k] := by
  conv => lhs; unfold rowP along
  rw [Int.toNat_natCast, List.getD_eq_getElem?_getD, List.getElem?_map, List.getElem?_eq_getElem hk]; rfl
 generalize hxe : (sortI R o)[k] = x at hx h1 h2 h3 hg
 have hf : ((sortI R o).filter fun y => decide (gdZ (partI R b) y = gdZ (partI R b) x)) = (sortI R o).filter fun y => decide (keyI R b y = keyI R b x) :=
  List.filter_congr fun y hy => decide_eq_decide.2 (partI_law (sortI_in hy) hx)
 rw [hf] at h1 h2
 have hat := filter_at (q := fun y => decide (keyI R b y = keyI R b x)) hk (by rw [hxe]; simp)
 have hnd : ((sortI R o).filter fun y => decide (keyI R b y = keyI R b x)).Nodup := (sortI_nodup R _).filter _
 have hl : A.length = (((sortI R o).take k).filter fun y => decide (keyI R b y = keyI R b x)).length := by
  obtain ⟨hA, eA⟩ := List.getElem?_eq_some_iff.1 h2
  obtain ⟨hB, eB⟩ := List.getElem?_eq_some_iff.1 hat
  rw [hxe] at eB
  rcases Nat.lt_trichotomy A.length (((sortI R o).take k).filter fun y => decide (keyI R b y = keyI R b x)).length with h | h | h
  ·exact absurd (eA.trans eB.symm) (List.pairwise_iff_getElem.1 hnd _ _ hA hB h)
  ·exact h
  ·exact absurd (eB.trans eA.symm) (List.pairwise_iff_getElem.1 hnd _ _ hB hA h)
 have hAe : A = ((sortI R o).take k).filter fun y => decide (keyI R b y = keyI R b x) := by
  refine h1.trans ?_
  rw [hl, ← filter_take (k := k)]
 rw [h3]
 unfold valP
 rw [hg, hAe]
 have e1 : (((along R o).take k).filter fun p => decide (pickC p.2 b = pickC (rowP R x).2 b)) = (((sortI R o).take k).filter fun y => decide (keyI R b y = keyI R b x)).map (rowP R) := by
  unfold along
  rw [← List.map_take, List.filter_map]
  rfl
 rw [e1, List.foldl_map]

def win4 (q : B4) (kd : Nat) : WinT := ⟨(kd : Int), winCol (kd : Int) q, .nil, winBy q, .nil, winOrd q⟩
def wins4 (q : B4) (n : Nat) : List WinT := (List.range n).map fun i => win4 q (i + 1)
def outP (q : B4) (L : Rows) (k : Nat) : List Val := (rowP L k).2 ++ [valP 1 (winCol 1 q) (winBy q) (winOrd q) L k] ++ [valP 2 (winCol 2 q) (winBy q) (winOrd q) L k] ++ [valP 3 (winCol 3 q) (winBy q) (winOrd q) L k] ++ [valP 4 (winCol 4 q) (winBy q) (winOrd q) L k]

theorem append_made {l : List B4} {q : B4} : ∃ X : Rows, appendR (mkRows l) (mkRows l) (wins4 q 4) = (some X, 0) ∧ X.length = (mkRows l).length ∧ (∀ p ∈ X, p.1 = .lst ∧ p.2.length = 8 ∧ ∀ v ∈ p.2, Short v) ∧
  (X.map Prod.snd).Perm ((List.range (mkRows l).length).map (outP q (along (mkRows l) (winOrd q)))) := by
 obtain ⟨D1, e1, l1⟩ := comp_made (l := l) (q := q) (kind := 1) (by omega)
 obtain ⟨D2, e2, l2⟩ := comp_made (l := l) (q := q) (kind := 2) (by omega)
 obtain ⟨D3, e3, l3⟩ := comp_made (l := l) (q := q) (kind := 3) (by omega)
 obtain ⟨D4, e4, l4⟩ := comp_made (l := l) (q := q) (kind := 4) (by omega)
 have hfit := mkRows_fit l
 have hsh : ∀ p ∈ mkRows l, ∀ v ∈ p.2, Short v := fun p hp => (mkRows_mem hp).2
 have s1 := (comp_short hsh e1).2
 have s2 := (comp_short hsh e2).2
 have s3 := (comp_short hsh e3).2
 have s4 := (comp_short hsh e4).2
 have hmem : ∀ p ∈ mkRows l, p.2.length = 4 := fun p hp => (mkRows_mem hp).1
 generalize hR : mkRows l = R at *
 have a1 : (addCol R D1).length = R.length := addCol_len l1
 have a2 : (addCol (addCol R D1) D2).length = R.length := by rw [addCol_len (by omega), a1]
 have a3 : (addCol (addCol (addCol R D1) D2) D3).length = R.length := by rw [addCol_len (by omega), a2]
 have a4 : (addCol (addCol (addCol (addCol R D1) D2) D3) D4).length = R.length := by rw [addCol_len (by omega), a3]
 have hget : ∀ (i : Nat) (hi : i < R.length), (addCol (addCol (addCol (addCol R D1) D2) D3) D4)[i]? = some (.lst, R[i].2 ++ [D1[i]'(by rw [l1]; exact hi)] ++ [D2[i]'(by rw [l2]; exact hi)] ++ [D3[i]'(by rw [l3]; exact hi)] ++ [D4[i]'(by rw [l4]; exact hi)]) := fun i hi => by
  rw [List.getElem?_eq_getElem (by omega), addCol_get (by omega) (by omega), addCol_get (by omega) (by omega), addCol_get (by omega) (by omega), addCol_get (by omega) (by omega)]
 refine ⟨addCol (addCol (addCol (addCol R D1) D2) D3) D4, ?_, a4, fun p hp => ?_, ?_⟩
 ·have w : wins4 q 4 = [win4 q 1, win4 q 2, win4 q 3, win4 q 4] := rfl
  rw [w]
  simp only [appendR, win4]
  simp only [show ((1 : Nat) : Int) = 1 from rfl, show ((2 : Nat) : Int) = 2 from rfl, show ((3 : Nat) : Int) = 3 from rfl, show ((4 : Nat) : Int) = 4 from rfl, e1, e2, e3, e4]
 ·obtain ⟨i, hi, rfl⟩ := List.getElem_of_mem hp
  have hi' : i < R.length := by omega
  have hg := hget i hi'
  rw [List.getElem?_eq_getElem hi] at hg
  rw [Option.some.inj hg]
  refine ⟨rfl, ?_, fun v hv => ?_⟩
  ·have := hmem _ (List.getElem_mem hi'); simp [this]
  ·simp only [List.mem_append, List.mem_singleton] at hv
   rcases hv with (((hv | rfl) | rfl) | rfl) | rfl
   ·exact hsh _ (List.getElem_mem hi') v hv
   ·exact s1 _ (List.getElem_mem _)
   ·exact s2 _ (List.getElem_mem _)
   ·exact s3 _ (List.getElem_mem _)
   ·exact s4 _ (List.getElem_mem _)
 ·generalize hX : addCol (addCol (addCol (addCol R D1) D2) D3) D4 = X at *
  have hs := sortI_len R (winOrd q)
  -- the rows, taken along the order
  have h1 : X.map Prod.snd = (upN R.length).map fun x => (rowP X x).2 := by
   apply List.ext_getElem (by simp [upN_len, a4])
   intro i h1 h2
   rw [List.getElem_map, List.getElem_map, upN_get]
   unfold rowP
   rw [Int.toNat_natCast, List.getD_eq_getElem?_getD, List.getElem?_eq_getElem (by simpa using h1)]; rfl
  have h2 : ((sortI R (winOrd q)).map fun x => (rowP X x).2) = (List.range R.length).map (outP q (along R (winOrd q))) := by
   apply List.ext_getElem (by simp [hs])
   intro k k1 k2
   rw [List.getElem_map, List.getElem_map, List.getElem_range]
   have hk : k < (sortI R (winOrd q)).length := by simpa using k1
   have hx := sortI_in (List.getElem_mem hk)
   have c1 := comp_row e1 hk
   have c2 := comp_row e2 hk
   have c3 := comp_row e3 hk
   have c4 := comp_row e4 hk
   have hg : rowP (along R (winOrd q)) k = rowP R (sortI R (winOrd q))[k] := by
    conv => lhs; unfold rowP along
    rw [Int.toNat_natCast, List.getD_eq_getElem?_getD, List.getElem?_map, List.getElem?_eq_getElem hk]; rfl
   generalize (sortI R (winOrd q))[k] = x at hx c1 c2 c3 c4 hg
   have hxl : x.toNat < R.length := by omega
   unfold outP
   rw [hg]
   have e5 : (rowP X x).2 = R[x.toNat].2 ++ [D1[x.toNat]] ++ [D2[x.toNat]] ++ [D3[x.toNat]] ++ [D4[x.toNat]] := by
    have hg2 := hget _ hxl
    rw [List.getElem?_eq_getElem (by omega)] at hg2
    rw [← rowP_get (by omega), Option.some.inj hg2]
   rw [e5, rowP_get hxl]
   rw [List.getElem?_eq_getElem (by omega)] at c1 c2 c3 c4
   rw [Option.some.inj c1, Option.some.inj c2, Option.some.inj c3, Option.some.inj c4]
  rw [h1, ← h2]
  exact ((isort_perm (ltI R (winOrd q)) (upN R.length)).map _).symm

theorem order_law {l l' : List B4} {q : B4} (h : (mkRows l).Perm (mkRows l')) : ∃ X X' : Rows, appendR (mkRows l) (mkRows l) (wins4 q 4) = (some X, 0) ∧ appendR (mkRows l') (mkRows l') (wins4 q 4) = (some X', 0) ∧ X.length = (mkRows l).length ∧ X'.length = (mkRows l).length ∧
  (∀ p ∈ X, p.1 = .lst ∧ p.2.length = 8 ∧ ∀ v ∈ p.2, Short v) ∧ (∀ p ∈ X', p.1 = .lst ∧ p.2.length = 8 ∧ ∀ v ∈ p.2, Short v) ∧ (X.map Prod.snd).Perm (X'.map Prod.snd) := by
 obtain ⟨X, e1, h1, h2, h3⟩ := append_made (l := l) (q := q)
 obtain ⟨X', e1', h1', h2', h3'⟩ := append_made (l := l') (q := q)
 have hlen := h.length_eq
 refine ⟨X, X', e1, e1', h1, by omega, h2, h2', h3.trans ?_⟩
 rw [hlen, along_eq h fun p hp => ?_]
 ·exact h3'.symm
 ·simp only [mkRows, List.mem_map] at hp
  obtain ⟨k, _, rfl⟩ := hp
  rfl

def remU : List Bool → List (List Val) → List (List Val)
 | u :: U, c :: C => if u = true then remU U C else c :: remU U C
 | _, _ => []
theorem remU_set : ∀ {U : List Bool} {C : List (List Val)} {j : Nat} (h1 : j < U.length) (h2 : j < C.length), U[j] = false → (remU U C).Perm (C[j] :: remU (U.set j true) C)
 | u :: U, c :: C, 0, h1, h2, h => by
  simp only [List.getElem_cons_zero] at h
  subst h
  simp only [List.set_cons_zero, remU, Bool.false_eq_true, if_false, if_true, List.getElem_cons_zero]
  exact List.Perm.refl _
 | u :: U, c :: C, j + 1, h1, h2, h => by
  have ih := remU_set (U := U) (C := C) (j := j) (by simpa using h1) (by simpa using h2) (by simpa using h)
  simp only [List.set_cons_succ, remU, List.getElem_cons_succ]
  cases u
  ·simp only [Bool.false_eq_true, if_false]
   exact (List.Perm.cons _ ih).trans (List.Perm.swap _ _ _)
  ·simp only [if_true]; exact ih
theorem remU_mem : ∀ {U : List Bool} {C : List (List Val)} {a : List Val}, U.length = C.length → a ∈ remU U C → ∃ (j : Nat) (h1 : j < U.length) (h2 : j < C.length), U[j] = false ∧ C[j] = a
 | [], [], a, _, h => by simp [remU] at h
 | [], _ :: _, a, hl, _ => by simp at hl
 | _ :: _, [], a, hl, _ => by simp at hl
 | u :: U, c :: C, a, hl, h => by
  simp only [remU] at h
  have rec_ : a ∈ remU U C → ∃ (j : Nat) (h1 : j < (u :: U).length) (h2 : j < (c :: C).length), (u :: U)[j] = false ∧ (c :: C)[j] = a := fun hm => by
   obtain ⟨j, h1, h2, h3, h4⟩ := remU_mem (by simpa using hl) hm
   exact ⟨j + 1, by simpa using h1, by simpa using h2, by simpa using h3, by simpa using h4⟩
  cases u
  ·simp only [Bool.false_eq_true, if_false, List.mem_cons] at h
   rcases h with rfl | h
   ·exact ⟨0, by simp, by simp, rfl, rfl⟩
   ·exact rec_ h
  ·simp only [if_true] at h; exact rec_ h
theorem remU_all : ∀ (C : List (List Val)), remU (List.replicate C.length false) C = C
 | [] => rfl
 | c :: C => by simp [List.replicate_succ, remU, remU_all C]
end Go.Abs
/- Chapter 42's examples answer. -/
set_option linter.unusedSimpArgs false
set_option linter.unusedVariables false
set_option maxRecDepth 100000
namespace Go.Abs
open Go
theorem X43_says : fSays T 400 i_X43 [] AVal.isTrue = true := by kernel_rfl
theorem X43_spec {lv : List Nat} {σ : Sto} {R : Post} : Cw T true i_X43 [] lv σ R ↔ R (.bool true) σ := cw_true T_X43 rfl X43_says
@[go_sem] theorem X43_call {Q : Post3} {k : List Item} {os : List AOper} {d : Option Nat} {e : Env} {σ : Sto} : CallK T Q k os d e σ true i_X43 [] ↔ Run T Q (.ops os :: k) (put e d (.bool true)) σ := X43_spec
end Go.Abs
/- Walks of chapter 42: partitions as tables of their own. -/
set_option linter.unusedSimpArgs false
set_option linter.unusedVariables false
set_option maxRecDepth 100000
set_option maxHeartbeats 4000000
namespace Go.Abs
open Go
attribute [local go_sem_proc] Nat.reduceLT Nat.reduceEqDiff Nat.reduceLeDiff Nat.reduceAdd Nat.reduceSub Nat.reduceMul Int.reduceLT Int.reduceLE Int.reduceEq Int.reduceNeg
attribute [local go_sem_proc ↓] reduceIte

abbrev kB (q : B4) : AObj := .cells false [.int .u8 (q.1 : Int), .int .u8 (q.2.1 : Int), .int .u8 (q.2.2.1 : Int), .int .u8 (q.2.2.2 : Int)]
abbrev gotD (f : SlF) (D : List Val) (n : Int) : AObj := .cells false [rowA f D, .nils, .nils, .int .i64 n]
def selP (R : Rows) (b : List Int) (first : List Val) (j : Nat) : Bool := decide (keyI R b (j : Int) = pickC first b)
def selE (R : Rows) (b : List Int) (first : List Val) (i : Nat) : List Nat := (List.range i).filter (selP R b first)
theorem selE_succ (R : Rows) (b : List Int) (first : List Val) (i : Nat) : selE R b first (i + 1) = if selP R b first i = true then selE R b first i ++ [i] else selE R b first i := by
 unfold selE
 rw [List.range_succ, List.filter_append]
 by_cases h : selP R b first i = true
 ·rw [if_pos h, List.filter_cons_of_pos h]; rfl
 ·rw [if_neg h, List.filter_cons_of_neg h]; simp
theorem selE_mem {R : Rows} {b : List Int} {first : List Val} {i : Nat} : i ∈ selE R b first R.length ↔ i < R.length ∧ keyI R b (i : Int) = pickC first b := by
 simp [selE, selP]
theorem selE_sorted (R : Rows) (b : List Int) (first : List Val) (i : Nat) : (selE R b first i).Pairwise (· < ·) := List.pairwise_lt_range.filter _
theorem selE_len (R : Rows) (b : List Int) (first : List Val) (i : Nat) : (selE R b first i).length ≤ i := by
 have := List.length_filter_le (selP R b first) (List.range i)
 rw [List.length_range] at this; exact this
abbrev frC (p : SlF × List Val) : AVal := sv 3 p.1 (p.2.map fun v => .agg [.int .i64 v.k, .int .i64 v.i, .str v.s])
abbrev partO (R : Rows) (E : List Nat) : AObj := .cells false (E.map fun j => frC (R.getD j (.nil, [])))
abbrev wantO (D : List Val) (E : List Nat) : AObj := .cells false (cellsV (E.map fun j => D.getD j zV))

theorem parts_loop {R : Rows} (hR : RowsFit R) {D : List Val} (hD : D.length = R.length) {kd c : Int} {b o : List Int} {first : List Val} {ff : SlF} {q : B4} (hb : Fits b) (hin : AllIn R b) (hf : InC first b) (hfs : ∀ v ∈ first, Short v)
  (next : Run T (Res [.tmp 6] (.bool true)) [.code X17.c0] (mkE 105 [(7, .bool true), (9, .ptr 1 4 0), (12, .ref 3 (selE R b first R.length).length 0 (selE R b first R.length).length 1), (13, .ref 4 ((selE R b first R.length).length * 3) 0 (selE R b first R.length).length 3)])
   [kB q, .cells false (winC kd c .nil b .nil o), gotD .lst D 0, partO R (selE R b first R.length), wantO D (selE R b first R.length)]) : ∀ i, i ≤ R.length →
  Run T (Res [.tmp 6] (.bool true)) (.inLoop X17.b0 :: X17.k0) (mkE 105 [(7, .bool true), (8, rowsA .lst R), (9, .ptr 1 4 0), (10, .ptr 2 4 0), (11, rowA ff first), (12, .ref 3 (selE R b first i).length 0 (selE R b first i).length 1), (13, .ref 4 ((selE R b first i).length * 3) 0 (selE R b first i).length 3), (14, .int .i64 i)])
   [kB q, .cells false (winC kd c .nil b .nil o), gotD .lst D 0, partO R (selE R b first i), wantO D (selE R b first i)] := by
 have hR3 := hR.1
 refine up_ind ?_ fun i hi ih => ?_
 ·rw [run_round, run_unfold X17.b0.eq_1]
  simp (maxSteps := 2000000) only [go_sem, X17.k0, run_unfold X17.c1.eq_1]
  exact next
 ·rw [run_round, run_unfold X17.b0.eq_1]
  have hiD : i < D.length := by omega
  have f1 := hin _ (List.getElem_mem hi)
  have s1 := (hR.2 _ (List.getElem_mem hi)).2
  have hcall := @X65_call R[i].1 ff .nil R[i].2 first b hb f1 hf s1 hfs
  have hm := selE_len R b first i
  have hgR : R.getD i (.nil, []) = R[i] := by rw [List.getD_eq_getElem?_getD, List.getElem?_eq_getElem hi]; rfl
  have hgD : D.getD i zV = D[i] := by rw [List.getD_eq_getElem?_getD, List.getElem?_eq_getElem hiD]; rfl
  have hsel : selP R b first i = decide (pickC R[i].2 b = pickC first b) := by unfold selP keyI; rw [rowN_get hi]
  rw [selE_succ, hsel] at ih
  have hu1 : AVal.namesL (fun o => decide (o < 5)) ((selE R b first i).map fun j => frC (R.getD j (.nil, []))) = true := v_names_map (fun _ => sv_pure) _
  have hu2 : AVal.namesL (fun o => decide (o < 5)) (cellsV ((selE R b first i).map fun j => D.getD j zV)) = true := v_names_flat (fun _ => rfl) _
  generalize selE R b first i = E at ih hm hu1 hu2 ⊢
  by_cases hk : pickC R[i].2 b = pickC first b
  ·have hz : cmpR (pickC R[i].2 b) (pickC first b) = 0 := cmpR_zero.2 hk
   rw [if_pos (by simp [hk])] at ih
   have ha1 : appendV 1 24 (.ref 3 E.length 0 E.length 1) (.ref 5 1 0 1 1) [kB q, .cells false (winC kd c .nil b .nil o), gotD .lst D 0, partO R E, wantO D E, .cells false [frC R[i]]] =
     some (.ref 3 (E.length + 1) 0 (E.length + 1) 1, [kB q, .cells false (winC kd c .nil b .nil o), gotD .lst D 0, partO R (E ++ [i]), wantO D E, .cells false [frC R[i]]]) := by
    rw [appendV_push (o := 3) (o' := 5) (nl := false) (nl' := false) (cs := E.map fun j => frC (R.getD j (.nil, []))) (v := frC R[i]) rfl rfl (by simp) sv_one (by simp only [maxBytes]; omega)]
    simp only [partO, List.map_append, List.map_cons, List.map_nil, hgR]; rfl
   have ha2 : ∀ X : AObj, appendV 3 32 (.ref 4 (E.length * 3) 0 E.length 3) (.ref 6 3 0 1 3) [kB q, .cells false (winC kd c .nil b .nil o), gotD .lst D 0, partO R (E ++ [i]), wantO D E, X, .cells false [.int .i64 D[i].k, .int .i64 D[i].i, .str D[i].s]] =
     some (.ref 4 ((E.length + 1) * 3) 0 (E.length + 1) 3, [kB q, .cells false (winC kd c .nil b .nil o), gotD .lst D 0, partO R (E ++ [i]), wantO D (E ++ [i]), X, .cells false [.int .i64 D[i].k, .int .i64 D[i].i, .str D[i].s]]) := by
    intro X
    rw [appendV_grow (m := 1) (nl := false) (cs := cellsV (E.map fun j => D.getD j zV)) (new := [.int .i64 D[i].k, .int .i64 D[i].i, .str D[i].s]) rfl (by simp [rowOf]) (by rw [cellsV_len, List.length_map]) rfl rfl (by decide) rfl (by simp only [maxBytes]; omega)]
    have : E.length * 3 + 1 * 3 = (E.length + 1) * 3 := by omega
    rw [this]
    simp only [wantO, cellsV, List.map_append, List.map_cons, List.map_nil, List.flatMap_append, List.flatMap_cons, List.flatMap_nil, hgD, List.append_nil]; rfl
   have hu1' : AVal.namesL (fun o => decide (o < 5)) ((E ++ [i]).map fun j => frC (R.getD j (.nil, []))) = true := v_names_map (fun _ => sv_pure) _
   have hu2' : AVal.namesL (fun o => decide (o < 5)) (cellsV ((E ++ [i]).map fun j => D.getD j zV)) = true := v_names_flat (fun _ => rfl) _
   have hEl : (E ++ [i]).length = E.length + 1 := by simp
   rw [hEl] at ih
   generalize hE' : E ++ [i] = E' at ih ha1 ha2 hu1' hu2'
   simp (maxSteps := 2000000) only [go_sem, hi, hiD, hcall, hz, ha1, ha2, hu1', hu2', AObj.under, AVal.unders, run_unfold X17.c0.eq_1, run_unfold X17.c1.eq_1, run_unfold X17.c2.eq_1, X17.k0, wrap_succ (show i < 9223372036854775807 by omega)]
   exact ih
  ·have hz : ¬ cmpR (pickC R[i].2 b) (pickC first b) = 0 := fun h => hk (cmpR_zero.1 h)
   rw [if_neg (by simp [hk])] at ih
   simp (maxSteps := 2000000) only [go_sem, hi, hiD, hcall, hz, hu1, hu2, AObj.under, AVal.unders, run_unfold X17.c0.eq_1, run_unfold X17.c1.eq_1, run_unfold X17.c2.eq_1, X17.k0, wrap_succ (show i < 9223372036854775807 by omega)]
   exact ih

theorem deep_vals {n o : Nat} {σ : Sto} {c : List Val} (hσ : σ[o]? = some (.cells false (cellsV c))) : deepA (n + 2) σ (.ref o (c.length * 3) 0 c.length 3) = some (rowA .lst c, σ.set o .dead) := by
 rw [deep_refN hσ (cellsV_len c) rfl (by decide) (v_names_flat (fun _ => rfl) c), chunk_flatMap (k := 3) (g := fun v : Val => [.int .i64 v.k, .int .i64 v.i, .str v.s]) (by decide) (fun _ => rfl)]
 rw [rowA, sv_lst]
theorem deep_part {n o : Nat} {σ : Sto} {R : Rows} {E : List Nat} (hσ : σ[o]? = some (partO R E)) : deepA (n + 2) σ (.ref o E.length 0 E.length 1) = some (rowsA .lst (subR R E), σ.set o .dead) := by
 rw [deep_ones (l := E) (g := fun j => frC (R.getD j (.nil, []))) (fun _ => sv_pure) hσ]
 rw [rowsA, sv_lst, subR, List.map_map]
 rfl
theorem subR_mem {R : Rows} {E : List Nat} (hE : ∀ i ∈ E, i < R.length) {p : SlF × List Val} (h : p ∈ subR R E) : p ∈ R := by
 simp only [subR, List.mem_map] at h
 obtain ⟨i, hi, rfl⟩ := h
 have := hE i hi
 rw [List.getD_eq_getElem?_getD, List.getElem?_eq_getElem this]
 exact List.getElem_mem this
theorem subR_fit {R : Rows} {E : List Nat} (hR : RowsFit R) (hE : ∀ i ∈ E, i < R.length) (hl : E.length ≤ R.length) : RowsFit (subR R E) :=
 ⟨by rw [subR_len]; have := hR.1; omega, fun p hp => hR.2 p (subR_mem hE hp)⟩
theorem tab_subR {R : Rows} {E : List Nat} (hE : ∀ i ∈ E, i < R.length) {cols : List Int} (h : tab R cols = true) : tab (subR R E) cols = true := by
 obtain ⟨h1, h2⟩ := tab_in h
 simp only [tab, Bool.and_eq_true, List.all_eq_true, decide_eq_true_eq, Bool.or_eq_true]
 cases hs : subR R E with
 | nil => exact ⟨fun p hp => by simp at hp, .inl rfl⟩
 | cons x r =>
  have hx : x ∈ R := subR_mem hE (by rw [hs]; simp)
  have hw : wid (x :: r) = wid R := h2 x hx
  refine ⟨fun p hp => ?_, .inr fun c hc => ?_⟩
  ·rw [hw]; exact h2 p (subR_mem hE (by rw [hs]; exact hp))
  ·rw [hw, ← h2 x hx]; exact h1 x hx c hc
theorem win_sub {R : Rows} {E : List Nat} (hE : ∀ i ∈ E, i < R.length) {kd c : Int} {b b' o : List Int} (hb : b' = b ∨ b' = []) (h : winOk kd c b o R = true) : winOk kd c b' o (subR R E) = true := by
 simp only [winOk, Bool.and_eq_true, decide_eq_true_eq] at h ⊢
 obtain ⟨⟨⟨⟨h1, h2⟩, h3⟩, h4⟩, h5⟩ := h
 refine ⟨⟨⟨⟨h1, h2⟩, ?_⟩, h4⟩, tab_subR hE (tab_sub ?_ h5)⟩
 ·rcases hb with rfl | rfl
  ·exact h3
  ·simp
 ·rcases hb with rfl | rfl
  ·exact fun c hc => hc
  ·intro x hx
   simp only [List.nil_append, List.mem_cons, List.mem_append] at hx ⊢
   rcases hx with h | h
   ·exact .inl h
   ·exact .inr (.inr h)

theorem X17_spec {f : SlF} {l : List B4} {q : B4} {n : Nat} (hl : l.length < 9223372036854775808) (hlb : ∀ k ∈ l, B4Ok k) (hq : B4Ok q) (hn : n < 256) {lv : List Nat} {σ : Sto} {R : Post} : Cw T true i_X17 [l4A f l, b4A q, .int .u8 (n : Int)] lv σ R ↔ R (.bool true) σ := by
 refine cw_intro T_X17 (by simp only [go_sem]) (by simp) ?_; rw [run_unfold X17.main.eq_1]
 have hfit := mkRows_fit l
 have hfit3 := hfit.1
 have e1 : Int.tmod (n : Int) 4 = ((n % 4 : Nat) : Int) := rfl
 have e2 := conv_lit (a := n % 4) (by omega)
 have e3 : IntKind.i64.wrap (1 + ((n % 4 : Nat) : Int)) = ((1 + n % 4 : Nat) : Int) := by rw [wrap_i64 (by omega) (by omega)]; omega
 have e4 : IntKind.u8.wrap (Int.tdiv (n : Int) 4) = ((n / 4 : Nat) : Int) := wrap_quo (k := 4) hn
 have e5 := conv_lit (a := n / 4) (by omega)
 have e6 : Int.tmod ((n / 4 : Nat) : Int) ((mkRows l).length : Int) = ((n / 4 % (mkRows l).length : Nat) : Int) := rfl
 obtain ⟨D, hD, hDl⟩ := comp_made (l := l) (q := q) (kind := ((1 + n % 4 : Nat) : Int)) (by omega)
 by_cases h0 : (mkRows l).length = 0
 ·simp (maxSteps := 2000000) only [go_sem, X60_call hl hlb, X67_call hq, e1, e2, e3, X45_call hfit, hD, hDl, fnd, Option.getD_some, h0, run_unfold X17.c0.eq_1, run_unfold X17.c1.eq_1, run_unfold X17.c2.eq_1, X17.k0]
 ·have hpos : 0 < (mkRows l).length := by omega
  have h0' : ¬ ((mkRows l).length : Int) = 0 := by omega
  have hj : n / 4 % (mkRows l).length < (mkRows l).length := Nat.mod_lt _ hpos
  generalize hjj : n / 4 % (mkRows l).length = j at hj e6
  have hwin := win_ok (l := l) (q := q) (kind := ((1 + n % 4 : Nat) : Int)) (by omega)
  have hAb : AllIn (mkRows l) (winBy q) := (tab_in (mkRows_tab (l := l) (takeC_in _ _))).1
  have hFb : Fits (winBy q) := by unfold Fits; have := winBy_len q; omega
  have hf := hAb _ (List.getElem_mem hj)
  have hfs := (hfit.2 _ (List.getElem_mem hj)).2
  have hsd := comp_short (fun p hp => (mkRows_mem hp).2) hD
  generalize hkd : ((1 + n % 4 : Nat) : Int) = kd at *
  generalize hcc : winCol kd q = c at *
  generalize hR : mkRows l = R at *
  generalize hbb : winBy q = b at *
  generalize hoo : winOrd q = o at *
  generalize hfi : R[j].2 = first at hf hfs
  have hEm : ∀ i, i ∈ selE R b first R.length ↔ i < R.length ∧ keyI R b (i : Int) = pickC first b := fun i => selE_mem
  have hElt : ∀ i ∈ selE R b first R.length, i < R.length := fun i hi => ((hEm i).1 hi).1
  have hElen := selE_len R b first R.length
  have hEs := selE_sorted R b first R.length
  have loop := parts_loop (R := R) hfit hDl (kd := kd) (c := c) (b := b) (o := o) (first := first) (ff := R[j].1) (q := q) hFb hAb hf hfs
  generalize selE R b first R.length = E at *
  have c1 := (comp_sub hD hEs hEm (win_sub hElt (.inl rfl) hwin) (.inl rfl)).2
  have c2 := (comp_sub hD hEs hEm (win_sub hElt (.inr rfl) hwin) (.inr rfl)).2
  have hsf := subR_fit hfit hElt hElen
  generalize hwant : (E.map fun i => D.getD i zV) = want at *
  have hwl : want.length = E.length := by rw [← hwant]; simp
  have hws : ∀ v ∈ want, Short v := by
   intro v hv
   rw [← hwant] at hv
   obtain ⟨i, hi, rfl⟩ := List.mem_map.1 hv
   have := hElt i hi
   rw [List.getD_eq_getElem?_getD, List.getElem?_eq_getElem (show i < D.length by omega)]
   exact hsd.2 _ (List.getElem_mem _)
  have hgf : GotFit want [] [] := ⟨by unfold Fits; omega, hws, by unfold Fits; decide, ⟨by decide, fun p hp => by simp at hp⟩⟩
  have hal : ∀ {Q : Post3} {k : List Item} {os : List AOper} {d : Option Nat} {e : Env} {σ : Sto}, CallK T Q k os d e σ true i_X54 [.agg [rowA .lst want, .nils, .nils, .int .i64 0], .agg [rowA .lst want, .nils, .nils, .int .i64 0]] ↔ Run T Q (.ops os :: k) (put e d (.bool true)) σ := by
   intro Q k os d e σ
   have := @X54_spec .lst .nil .nil .lst .nil .nil want want [] [] [] [] 0 0 hgf hgf [] σ (fun v σ' => Run T Q (.ops os :: k) (put e d v) σ')
   rw [show alikeB want want [] [] [] [] 0 0 = true by simp [alikeB]] at this
   exact this
  have hc1 : ∀ {Q : Post3} {k : List Item} {os : List AOper} {d : Option Nat} {e : Env} {σ : Sto}, CallK T Q k os d e σ true i_X45 [rowsA .lst (subR R E), winA kd c .nil b .nil o] ↔ Run T Q (.ops os :: k) (put e d (.agg [rowA .lst want, .nils, .nils, .int .i64 0])) σ := by
   intro Q k os d e σ
   have := @X45_spec .lst .nil .nil (subR R E) kd c b o hsf [] σ (fun v σ' => Run T Q (.ops os :: k) (put e d v) σ')
   rw [c1] at this
   exact this
  have hc2 : ∀ {Q : Post3} {k : List Item} {os : List AOper} {d : Option Nat} {e : Env} {σ : Sto}, CallK T Q k os d e σ true i_X45 [rowsA .lst (subR R E), .agg [.int .i64 kd, .int .i64 c, .nils, ints .nil o]] ↔ Run T Q (.ops os :: k) (put e d (.agg [rowA .lst want, .nils, .nils, .int .i64 0])) σ := by
   intro Q k os d e σ
   have := @X45_spec .lst .nil .nil (subR R E) kd c [] o hsf [] σ (fun v σ' => Run T Q (.ops os :: k) (put e d v) σ')
   rw [c2] at this
   exact this
  have hwo : wantO D E = .cells false (cellsV want) := by rw [wantO, hwant]
  have hd1 := fun (σ : Sto) (h : σ[3]? = some (partO R E)) => deep_part (n := 62) h
  have hd2 := fun (σ : Sto) (h : σ[4]? = some (.cells false (cellsV want))) => deep_vals (n := 62) h
  rw [hwl] at hd2
  have hloop := loop (by
   rw [hwo]
   simp (maxSteps := 2000000) only [go_sem, run_unfold X17.c0.eq_1, run_unfold X17.c1.eq_1, run_unfold X17.c2.eq_1, X17.k0, hd1, hd2, hc1, hc2, hal]) 0 (by omega)
  have hfi' : R[j].2 = first := hfi
  simp (maxSteps := 2000000) only [go_sem, X60_call hl hlb, hR, X67_call hq, e1, e2, e3, e4, e5, e6, hcc, hbb, hoo, X45_call hfit, hD, hDl, fnd, Option.getD_some, h0', hj, hfi', run_unfold X17.c0.eq_1, run_unfold X17.c1.eq_1, run_unfold X17.c2.eq_1, X17.k0]
  exact hloop
@[go_sem] theorem X17_call {f : SlF} {l : List B4} {q : B4} {n : Nat} (hl : l.length < 9223372036854775808) (hlb : ∀ k ∈ l, B4Ok k) (hq : B4Ok q) (hn : n < 256) {Q : Post3} {k : List Item} {os : List AOper} {d : Option Nat} {e : Env} {σ : Sto} : CallK T Q k os d e σ true i_X17 [l4A f l, b4A q, .int .u8 (n : Int)] ↔ Run T Q (.ops os :: k) (put e d (.bool true)) σ := X17_spec hl hlb hq hn

end Go.Abs
/- Walks of chapter 42: rows in another order. -/
set_option linter.unusedSimpArgs false
set_option linter.unusedVariables false
set_option maxRecDepth 100000
set_option maxHeartbeats 4000000
namespace Go.Abs
open Go
attribute [local go_sem_proc] Nat.reduceLT Nat.reduceEqDiff Nat.reduceLeDiff Nat.reduceAdd Nat.reduceSub Nat.reduceMul Int.reduceLT Int.reduceLE Int.reduceEq Int.reduceNeg
attribute [local go_sem_proc ↓] reduceIte

abbrev mixO (R : Rows) (L : List Int) (m : Nat) : AObj := .cells false (L.map (fun x => frC (rowP R x)) ++ List.replicate m .nils)
theorem rowAt' {R : Rows} {x : Int} (h : 0 ≤ x ∧ x < R.length) (σ : Sto) : iaddrV 1 (rowsA .lst R) (.int .i64 x) σ = some (.fptr [frC (rowP R x)], σ) := by
 have := @iaddrV_int' 1 .lst _ (fun p : SlF × List Val => sv 3 p.1 (p.2.map fun v => .agg [.int .i64 v.k, .int .i64 v.i, .str v.s])) R .i64 x σ h
 rw [rowP_get (by omega), sv_cells] at this
 exact this

theorem order_loop0 {R : Rows} (hR : RowsFit R) {to : List Int} {q : B4} (ht : to.length = R.length) (hin : ∀ x ∈ to, 0 ≤ x ∧ x < R.length) {V : AVal}
  (next : Run T (Res [.tmp 6] V) [.code X31.c6] (mkE 141 [(4, .ptr 0 4 0), (7, .bool true), (8, rowsA .lst R), (10, .ref 1 R.length 0 R.length 1)]) [kB q, mixO R to 0]) : ∀ i, i ≤ R.length →
  Run T (Res [.tmp 6] V) (.inLoop X31.b0 :: X31.k0) (mkE 141 [(4, .ptr 0 4 0), (7, .bool true), (8, rowsA .lst R), (9, ints .lst to), (10, .ref 1 R.length 0 R.length 1), (11, .int .i64 i)]) [kB q, mixO R (to.take i) (R.length - i)] := by
 have hR3 := hR.1
 refine up_ind ?_ fun i hi ih => ?_
 ·rw [run_round, run_unfold X31.b0.eq_1]
  rw [Nat.sub_self, ← ht, List.take_length, ht]
  simp (maxSteps := 2000000) only [go_sem, X31.k0]
  exact next
 ·rw [run_round, run_unfold X31.b0.eq_1]
  have hit : i < to.length := by omega
  have hx := hin _ (List.getElem_mem hit)
  have rx := rowAt' hx
  rw [List.take_succ_eq_append_getElem hit] at ih
  have hl : (to.take i).length = i := by rw [List.length_take]; omega
  have hcl : ((to.take i).map (fun x => frC (rowP R x)) ++ List.replicate (R.length - i) AVal.nils).length = R.length := by simp; omega
  have hov : ((to.take i).map (fun x => frC (rowP R x)) ++ List.replicate (R.length - i) AVal.nils).take i ++ [frC (rowP R to[i])] ++ ((to.take i).map (fun x => frC (rowP R x)) ++ List.replicate (R.length - i) AVal.nils).drop (i + 1) = (to.take i ++ [to[i]]).map (fun x => frC (rowP R x)) ++ List.replicate (R.length - (i + 1)) AVal.nils := by
   rw [List.take_left' (by simpa using hl), List.drop_append, List.drop_eq_nil_of_le (by simp; omega), List.length_map, hl, List.drop_replicate, List.nil_append, List.map_append]
   rw [show R.length - i - (i + 1 - i) = R.length - (i + 1) by omega]; rfl
  have hi1 : i + 1 ≤ R.length := hi
  generalize hcs : (to.take i).map (fun x => frC (rowP R x)) ++ List.replicate (R.length - i) AVal.nils = cs at hcl hov
  generalize hxe : to[i] = x at hx rx hov ih
  unfold mixO
  rw [hcs]
  simp (maxSteps := 2000000) only [go_sem, hi, hi1, hit, hxe, rx, hcl, hov, Nat.zero_add, Nat.mul_one, run_unfold X31.c0.eq_1, run_unfold X31.c1.eq_1, run_unfold X31.c2.eq_1, run_unfold X31.c3.eq_1, run_unfold X31.c4.eq_1, run_unfold X31.c5.eq_1, run_unfold X31.c6.eq_1, X31.k0, X31.k1, X31.k2, X31.k3, wrap_succ (show i < 9223372036854775807 by omega)]
  exact ih

abbrev winsO (L : List WinT) : AObj := .cells false (L.flatMap fun w => winC w.kd w.c w.fb w.b w.fo w.o)
theorem wins4_len (q : B4) (n : Nat) : (wins4 q n).length = n := by simp [wins4]
theorem wins4_succ (q : B4) (n : Nat) : wins4 q (n + 1) = wins4 q n ++ [win4 q (n + 1)] := by simp [wins4, List.range_succ]
theorem winC_pure {p : Nat → Bool} (L : List WinT) : AVal.namesL p (L.flatMap fun w => winC w.kd w.c w.fb w.b w.fo w.o) = true := by
 induction L with
 | nil => rfl
 | cons w L ih =>
  rw [List.flatMap_cons, v_names_append, ih, Bool.and_true]
  simp (maxSteps := 2000000) only [go_sem]

theorem order_loop1 {R : Rows} {q : B4} (hq : B4Ok q) {M : List AVal} (hM : ∀ p : Nat → Bool, AVal.namesL p M = true) {V : AVal}
  (next : Run T (Res [.tmp 6] V) [.code X31.c5] (mkE 141 [(7, .bool true), (8, rowsA .lst R), (10, .ref 1 R.length 0 R.length 1), (12, .ref 2 (4 * 4) 0 4 4)]) [kB q, .cells false M, winsO (wins4 q 4)]) : ∀ i, i ≤ 4 →
  Run T (Res [.tmp 6] V) (.inLoop X31.b1 :: X31.k1) (mkE 141 [(4, .ptr 0 4 0), (7, .bool true), (8, rowsA .lst R), (10, .ref 1 R.length 0 R.length 1), (12, .ref 2 (i * 4) 0 i 4), (13, .int .i64 ((i + 1 : Nat) : Int))]) [kB q, .cells false M, winsO (wins4 q i)] := by
 refine up_ind ?_ fun i hi ih => ?_
 ·rw [run_round, run_unfold X31.b1.eq_1]
  have h5 : ¬ (((4 + 1 : Nat) : Int) ≤ 4) := by omega
  simp (maxSteps := 2000000) only [go_sem, h5, X31.k1]
  exact next
 ·rw [run_round, run_unfold X31.b1.eq_1]
  have h4 : ((i + 1 : Nat) : Int) ≤ 4 := by omega
  have ha := appendV_struct (o := 2) (o' := 3) (k := 4) (bytes := 64) (g := fun w : WinT => winC w.kd w.c w.fb w.b w.fo w.o) (X := wins4 q i) (y := win4 q (i + 1)) (σ := [kB q, .cells false M, winsO (wins4 q i), winO (win4 q (i + 1))]) (by decide) (fun _ => rfl) (fun _ => by simp (maxSteps := 2000000) only [go_sem]) rfl rfl (by rw [wins4_len]; simp only [maxBytes]; omega)
  rw [wins4_len, ← wins4_succ, wins4_len] at ha
  have hu := winC_pure (p := fun o => decide (o < 3)) (wins4 q (i + 1))
  have hMu := hM fun o => decide (o < 3)
  unfold winsO at ha ih ⊢
  generalize (wins4 q (i + 1)).flatMap (fun w => winC w.kd w.c w.fb w.b w.fo w.o) = W' at ha hu ih ⊢
  generalize (wins4 q i).flatMap (fun w => winC w.kd w.c w.fb w.b w.fo w.o) = W at ha ⊢
  simp only [win4] at ha
  simp (maxSteps := 2000000) only [go_sem, h4, X67_call hq, ha, hu, hMu, run_unfold X31.c0.eq_1, run_unfold X31.c1.eq_1, run_unfold X31.c2.eq_1, run_unfold X31.c3.eq_1, run_unfold X31.c4.eq_1, run_unfold X31.c5.eq_1, run_unfold X31.c6.eq_1, X31.k0, X31.k1, X31.k2, X31.k3, wrap_succ (show i + 1 < 9223372036854775807 by omega)]
  exact ih

abbrev gotR (X : Rows) : AObj := .cells false [.nils, .nils, rowsA .lst X, .int .i64 0]
abbrev boolsO (U : List Bool) : AObj := .cells false (U.map fun b => .bool b)
theorem set_bools {U : List Bool} {j : Nat} (h : j < U.length) : (U.map fun b => AVal.bool b).take j ++ [AVal.bool true] ++ (U.map fun b => AVal.bool b).drop (j + 1) = (U.set j true).map fun b => AVal.bool b := by
 rw [List.set_eq_take_append_cons_drop, if_pos h]
 simp

section
variable {R X Y : Rows} {q : B4}
theorem order_loop3 {U : List Bool} (hR : R.length ≤ 300) (hX : X.length = R.length) (hY : Y.length = R.length) (hU : U.length = R.length) (hXs : ∀ p ∈ X, Fits p.2 ∧ ∀ v ∈ p.2, Short v) (hYs : ∀ p ∈ Y, Fits p.2 ∧ ∀ v ∈ p.2, Short v) {i : Nat} (hi : i < R.length) {V : AVal}
  (next : ∀ (j : Nat) (h1 : j < U.length) (h2 : j < Y.length), U[j] = false → Y[j].2 = (X[i]'(by omega)).2 →
   Run T (Res [.tmp 6] V) (.code X31.c3 :: .inBlock 5 :: .code (.ghost (.kill [139])) :: .code X31.c2 :: .inLoop X31.b2 :: X31.k2) (mkE 141 [(7, .bool true), (8, rowsA .lst R), (14, .ptr 3 4 0), (15, .ptr 4 4 0), (16, .ref 5 R.length 0 R.length 1), (17, .int .i64 i), (18, .bool true)]) [kB q, .dead, .dead, gotR X, gotR Y, boolsO (U.set j true)]) : ∀ m, m ≤ R.length →
  (∃ (j : Nat) (h1 : j < U.length) (h2 : j < Y.length), m ≤ j ∧ U[j] = false ∧ Y[j].2 = (X[i]'(by omega)).2) →
  Run T (Res [.tmp 6] V) (.inLoop X31.b3 :: X31.k3) (mkE 141 [(7, .bool true), (8, rowsA .lst R), (14, .ptr 3 4 0), (15, .ptr 4 4 0), (16, .ref 5 R.length 0 R.length 1), (17, .int .i64 i), (18, .bool false), (19, .int .i64 m)]) [kB q, .dead, .dead, gotR X, gotR Y, boolsO U] := by
 refine up_ind ?_ fun m hm ih => ?_
 ·rintro ⟨j, h1, h2, h3, _⟩
  omega
 ·intro hex
  rw [run_round, run_unfold X31.b3.eq_1]
  have hmU : m < U.length := by omega
  have hmY : m < Y.length := by omega
  have hiX : i < X.length := by omega
  obtain ⟨x1, x2⟩ := hXs _ (List.getElem_mem hiX)
  obtain ⟨y1, y2⟩ := hYs _ (List.getElem_mem hmY)
  have hc := @X59_call X[i].1 Y[m].1 X[i].2 Y[m].2 x1 y1 x2 y2
  have hgU : loadA false 1 ((U.map fun b => AVal.bool b).drop m) = some (.bool U[m]) := by
   simp only [loadA, Bool.false_eq_true, if_false, List.head?_drop, List.getElem?_map, List.getElem?_eq_getElem hmU, Option.map_some]
  have hm1 : m + 1 ≤ R.length := hm
  have hw := wrap_succ (show m < 9223372036854775807 by omega)
  have hfind : (U[m] = false ∧ Y[m].2 = X[i].2) ∨ ∃ (j : Nat) (h1 : j < U.length) (h2 : j < Y.length), m + 1 ≤ j ∧ U[j] = false ∧ Y[j].2 = X[i].2 := by
   obtain ⟨j, h1, h2, h3, h4, h5⟩ := hex
   by_cases e : m = j
   ·subst e; exact .inl ⟨h4, h5⟩
   ·exact .inr ⟨j, h1, h2, by omega, h4, h5⟩
  cases hu : U[m] with
  | true =>
   have hex' := hfind.resolve_left fun h => by rw [hu] at h; simp at h
   rw [hu] at hgU
   have ih' := ih hex'
   simp (maxSteps := 2000000) only [go_sem, hm, hm1, hU, hgU, Nat.zero_add, Nat.mul_one, List.length_map, hw, run_unfold X31.c0.eq_1, run_unfold X31.c1.eq_1, run_unfold X31.c2.eq_1, run_unfold X31.c3.eq_1, run_unfold X31.c4.eq_1, run_unfold X31.c5.eq_1, run_unfold X31.c6.eq_1, X31.k0, X31.k1, X31.k2, X31.k3]
   exact ih'
  | false =>
   rw [hu] at hgU
   by_cases he : X[i].2 = Y[m].2
   ·have hd : decide (X[i].2 = Y[m].2) = true := by simp [he]
    have nx := next m hmU hmY hu he.symm
    have hov := set_bools hmU
    rw [hd] at hc
    by_cases hl : m + 1 < R.length
    ·simp (maxSteps := 2000000) only [go_sem, hm, hm1, hi, hiX, hmY, hU, hgU, hc, hov, Nat.zero_add, Nat.mul_one, List.length_map, hw, run_unfold X31.c0.eq_1, run_unfold X31.c1.eq_1, run_unfold X31.c2.eq_1, run_unfold X31.c3.eq_1, run_unfold X31.c4.eq_1, run_unfold X31.c5.eq_1, run_unfold X31.c6.eq_1, X31.k0, X31.k1, X31.k2, X31.k3]
     rw [run_round, run_unfold X31.b3.eq_1]
     simp (maxSteps := 2000000) only [go_sem, hl, X31.k3]
     exact nx
    ·simp (maxSteps := 2000000) only [go_sem, hm, hm1, hi, hiX, hmY, hU, hgU, hc, hov, Nat.zero_add, Nat.mul_one, List.length_map, hw, run_unfold X31.c0.eq_1, run_unfold X31.c1.eq_1, run_unfold X31.c2.eq_1, run_unfold X31.c3.eq_1, run_unfold X31.c4.eq_1, run_unfold X31.c5.eq_1, run_unfold X31.c6.eq_1, X31.k0, X31.k1, X31.k2, X31.k3]
     rw [run_round, run_unfold X31.b3.eq_1]
     simp (maxSteps := 2000000) only [go_sem, hl, X31.k3]
     exact nx
   ·have hd : decide (X[i].2 = Y[m].2) = false := by simp [he]
    have hex' := hfind.resolve_left fun h => he h.2.symm
    rw [hd] at hc
    have ih' := ih hex'
    simp (maxSteps := 2000000) only [go_sem, hm, hm1, hi, hiX, hmY, hU, hgU, hc, Nat.zero_add, Nat.mul_one, List.length_map, hw, run_unfold X31.c0.eq_1, run_unfold X31.c1.eq_1, run_unfold X31.c2.eq_1, run_unfold X31.c3.eq_1, run_unfold X31.c4.eq_1, run_unfold X31.c5.eq_1, run_unfold X31.c6.eq_1, X31.k0, X31.k1, X31.k2, X31.k3]
    exact ih'

theorem order_loop2 (hR : R.length ≤ 300) (hX : X.length = R.length) (hY : Y.length = R.length) (hXs : ∀ p ∈ X, p.2.length = 8 ∧ ∀ v ∈ p.2, Short v) (hYs : ∀ p ∈ Y, p.2.length = 8 ∧ ∀ v ∈ p.2, Short v) : ∀ i, i ≤ R.length → ∀ U : List Bool, U.length = R.length → ((X.drop i).map Prod.snd).Perm (remU U (Y.map Prod.snd)) →
  Run T (Res [.tmp 6] (.bool true)) (.inLoop X31.b2 :: X31.k2) (mkE 141 [(7, .bool true), (8, rowsA .lst R), (14, .ptr 3 4 0), (15, .ptr 4 4 0), (16, .ref 5 R.length 0 R.length 1), (17, .int .i64 i)]) [kB q, .dead, .dead, gotR X, gotR Y, boolsO U] := by
 have hfit : ∀ {Z : Rows}, (∀ p ∈ Z, p.2.length = 8 ∧ ∀ v ∈ p.2, Short v) → ∀ p ∈ Z, Fits p.2 ∧ ∀ v ∈ p.2, Short v := fun h p hp => ⟨by unfold Fits; rw [(h p hp).1]; omega, (h p hp).2⟩
 refine up_ind ?_ fun i hi ih => ?_
 ·intro U hU hp
  rw [run_round, run_unfold X31.b2.eq_1]
  simp (maxSteps := 2000000) only [go_sem, run_unfold X31.c0.eq_1, run_unfold X31.c1.eq_1, run_unfold X31.c2.eq_1, run_unfold X31.c3.eq_1, run_unfold X31.c4.eq_1, run_unfold X31.c5.eq_1, run_unfold X31.c6.eq_1, X31.k0, X31.k1, X31.k2, X31.k3]
 ·intro U hU hp
  rw [run_round, run_unfold X31.b2.eq_1]
  have hiX : i < X.length := by omega
  rw [List.drop_eq_getElem_cons hiX, List.map_cons] at hp
  have hm : X[i].2 ∈ remU U (Y.map Prod.snd) := hp.mem_iff.1 (by simp)
  obtain ⟨j0, g1, g2, g3, g4⟩ := remU_mem (by simp [hU, hY]) hm
  have h8 := (hXs _ (List.getElem_mem hiX)).1
  have l3 := order_loop3 (R := R) (X := X) (Y := Y) (q := q) (U := U) hR hX hY hU (hfit hXs) (hfit hYs) hi (V := .bool true) (fun j h1 h2 h3 h4 => by
   have h2' : j < (Y.map Prod.snd).length := by simpa using h2
   have hr := remU_set (C := Y.map Prod.snd) h1 h2' h3
   rw [List.getElem_map, h4] at hr
   have ih' := ih (U.set j true) (by simpa using hU) ((List.perm_cons _).1 (hp.trans hr))
   have hw := wrap_succ (show i < 9223372036854775807 by omega)
   simp (maxSteps := 2000000) only [go_sem, hiX, h8, hw, run_unfold X31.c0.eq_1, run_unfold X31.c1.eq_1, run_unfold X31.c2.eq_1, run_unfold X31.c3.eq_1, run_unfold X31.c4.eq_1, run_unfold X31.c5.eq_1, run_unfold X31.c6.eq_1, X31.k0, X31.k1, X31.k2, X31.k3]
   exact ih') 0 (by omega) ⟨j0, g1, by simpa using g2, by omega, g3, by simpa using g4⟩
  simp (maxSteps := 2000000) only [go_sem, hi, run_unfold X31.c0.eq_1, run_unfold X31.c1.eq_1, run_unfold X31.c2.eq_1, run_unfold X31.c3.eq_1, run_unfold X31.c4.eq_1, run_unfold X31.c5.eq_1, run_unfold X31.c6.eq_1, X31.k0, X31.k1, X31.k2, X31.k3]
  exact l3
end

theorem clR_lst {X : Rows} (h : ∀ p ∈ X, p.1 = .lst) : clR X = X := by
 unfold clR
 conv => rhs; rw [← List.map_id X]
 refine List.map_congr_left fun p hp => ?_
 obtain ⟨f, r⟩ := p
 have := h _ hp
 simp only at this
 subst this
 rfl

theorem mixed_rows {l : List B4} {to : List Int} (ht : to.Perm (upN (mkRows l).length)) : ∃ l' : List B4, mkRows l' = to.map (rowP (mkRows l)) ∧ (mkRows l).Perm (mkRows l') := by
 have hn := mkRows_len l
 have hl : to.length = (mkRows l).length := by rw [ht.length_eq, upN_len]
 have hin : ∀ x ∈ to, 0 ≤ x ∧ x < (mkRows l).length := fun x hx => upN_mem (ht.mem_iff.1 hx)
 have key : mkRows (to.map fun x => (l.take 16).getD x.toNat (0, 0, 0, 0)) = to.map (rowP (mkRows l)) := by
  unfold mkRows
  rw [List.take_of_length_le (by simp; omega), List.map_map]
  refine List.map_congr_left fun x hx => ?_
  have := hin x hx
  have hx16 : x.toNat < (l.take 16).length := by rw [mkRows_len] at this; simp; omega
  have hxm : x.toNat < (mkRows l).length := by omega
  simp only [Function.comp]
  unfold rowP
  rw [List.getD_eq_getElem?_getD, List.getElem?_eq_getElem hx16, List.getD_eq_getElem?_getD, List.getElem?_map, List.getElem?_eq_getElem hx16]
  rfl
 refine ⟨_, key, ?_⟩
 rw [key]
 have := ht.map (rowP (mkRows l))
 rw [map_rowP] at this
 exact this.symm

theorem X31_spec {f g : SlF} {l : List B4} {q : B4} {b : List Nat} (hl : l.length < 9223372036854775808) (hlb : ∀ k ∈ l, B4Ok k) (hq : B4Ok q) (hb : b.length < 9223372036854775808) (hb8 : ∀ n ∈ b, n < 256) {lv : List Nat} {σ : Sto} {R : Post} : Cw T true i_X31 [l4A f l, b4A q, bytesV g b] lv σ R ↔ R (.bool true) σ := by
 refine cw_intro T_X31 (by simp only [go_sem]) (by simp) ?_; rw [run_unfold X31.main.eq_1]
 have hfit := mkRows_fit l
 have hfit3 := hfit.1
 have hperm : (shufZ b (mkRows l).length 0 []).Perm (upN (mkRows l).length) := by
  have := shufZ_perm (b := b) (mkRows l).length 0 [] (by exact List.Perm.refl _)
  rwa [Nat.zero_add] at this
 obtain ⟨l', hl', hpm⟩ := mixed_rows hperm
 obtain ⟨X, Y, eX, eY, lX, lY, sX, sY, hXY⟩ := order_law (q := q) hpm
 have hfit' := mkRows_fit l'
 have hsm : ∀ l : List B4, ∀ p ∈ mkRows l, p.2.length ≤ 500 := fun l p hp => by rw [(mkRows_mem hp).1]; omega
 have hw4 : (wins4 q 4).length ≤ 100 := by rw [wins4_len]; omega
 have cX := @X42_call .lst .lst (mkRows l) (wins4 q 4) hfit (hsm l) hw4
 have cY := @X42_call .lst .lst (mkRows l') (wins4 q 4) hfit' (hsm l') hw4
 rw [eX, appA] at cX
 rw [eY, appA] at cY
 simp only [clR_lst fun p hp => (sX p hp).1] at cX
 simp only [clR_lst fun p hp => (sY p hp).1] at cY
 have hto : (shufZ b (mkRows l).length 0 []).length = (mkRows l).length := by rw [hperm.length_eq, upN_len]
 have hin : ∀ x ∈ shufZ b (mkRows l).length 0 [], 0 ≤ x ∧ x < (mkRows l).length := fun x hx => upN_mem (hperm.mem_iff.1 hx)
 have hsh := @X40_call g (mkRows l).length b (by omega) hb hb8
 have hloop2 := order_loop2 (R := mkRows l) (X := X) (Y := Y) (q := q) hfit3 lX lY (fun p hp => (sX p hp).2) (fun p hp => (sY p hp).2) 0 (by omega) (List.replicate (mkRows l).length false) (by simp) (by
  have := remU_all (Y.map Prod.snd)
  rw [List.length_map, lY] at this
  rw [this, List.drop_zero]; exact hXY)
 have hd1 : ∀ (σ : Sto), σ[1]? = some (.cells false ((shufZ b (mkRows l).length 0 []).map fun x => frC (rowP (mkRows l) x))) → deepA 64 σ (.ref 1 (mkRows l).length 0 (mkRows l).length 1) = some (rowsA .lst (mkRows l'), σ.set 1 .dead) := fun σ h => by
  have := deep_ones (n := 62) (g := fun x => frC (rowP (mkRows l) x)) (fun _ => sv_pure) h
  rw [hto] at this
  rw [this, hl', rowsA, sv_lst, List.map_map]
  rfl
 have hd2 : ∀ (σ : Sto), σ[2]? = some (winsO (wins4 q 4)) → deepA 64 σ (.ref 2 (4 * 4) 0 4 4) = some (winsA .lst (wins4 q 4), σ.set 2 .dead) := fun σ h => by
  rw [deep_refN (n := 62) (o := 2) (gen := 4 * 4) (len := 4) (k := 4) h rfl rfl (by decide) (winC_pure _)]
  have := chunk_flatMap (k := 4) (g := fun w : WinT => winC w.kd w.c w.fb w.b w.fo w.o) (by decide) (fun _ => rfl) (wins4 q 4)
  rw [wins4_len] at this
  rw [this, winsA, sv_lst]
 have hr1 : (List.replicate (mkRows l).length [AVal.nils]).flatten = List.replicate (mkRows l).length .nils := by
  induction (mkRows l).length with
  | zero => rfl
  | succ n ih => rw [List.replicate_succ, List.flatten_cons, ih, List.replicate_succ]; rfl
 have hr2 : (List.replicate (mkRows l).length [AVal.bool false]).flatten = (List.replicate (mkRows l).length false).map fun b => .bool b := by
  induction (mkRows l).length with
  | zero => rfl
  | succ n ih => rw [List.replicate_succ, List.flatten_cons, ih, List.replicate_succ]; rfl
 generalize hRR : mkRows l = R at *
 generalize hRR' : mkRows l' = R' at *
 generalize shufZ b R.length 0 [] = to at *
 generalize hws : wins4 q 4 = ws at *
 have h0 := order_loop0 (R := R) (to := to) (q := q) (V := .bool true) hfit hto hin (by
  have h1 := order_loop1 (R := R) (q := q) (V := .bool true) hq (M := to.map (fun x => frC (rowP R x))) (fun p => v_names_map (fun _ => sv_pure) _) (by
   rw [hws]
   simp (maxSteps := 2000000) only [go_sem, run_unfold X31.c5.eq_1, hd1, hd2, cX, cY, lX, lY, mk_gen (show R.length * 1 ≤ 100000000 by omega) (by decide), hr2, Nat.mul_one, run_unfold X31.c0.eq_1, run_unfold X31.c1.eq_1, run_unfold X31.c2.eq_1, run_unfold X31.c3.eq_1, run_unfold X31.c4.eq_1, run_unfold X31.c5.eq_1, run_unfold X31.c6.eq_1, X31.k0, X31.k1, X31.k2, X31.k3]
   exact hloop2) 0 (by omega)
  rw [mixO, List.replicate_zero, List.append_nil]
  simp (maxSteps := 2000000) only [go_sem, run_unfold X31.c6.eq_1]
  exact h1) 0 (by omega)
 simp (maxSteps := 2000000) only [go_sem, X60_call hl hlb, hRR, hsh, mk_gen (show R.length * 24 ≤ 100000000 by omega) (by decide), hr1, Nat.mul_one, run_unfold X31.c0.eq_1, run_unfold X31.c1.eq_1, run_unfold X31.c2.eq_1, run_unfold X31.c3.eq_1, run_unfold X31.c4.eq_1, run_unfold X31.c5.eq_1, run_unfold X31.c6.eq_1, X31.k0, X31.k1, X31.k2, X31.k3]
 exact h0
@[go_sem] theorem X31_call {f g : SlF} {l : List B4} {q : B4} {b : List Nat} (hl : l.length < 9223372036854775808) (hlb : ∀ k ∈ l, B4Ok k) (hq : B4Ok q) (hb : b.length < 9223372036854775808) (hb8 : ∀ n ∈ b, n < 256) {Q : Post3} {k : List Item} {os : List AOper} {d : Option Nat} {e : Env} {σ : Sto} : CallK T Q k os d e σ true i_X31 [l4A f l, b4A q, bytesV g b] ↔ Run T Q (.ops os :: k) (put e d (.bool true)) σ := X31_spec hl hlb hq hb hb8

end Go.Abs
