/- Parts of the proof: C36SA, C36SB. -/
import Derived.Test.YtdiekiajedmaeaaJC36A
import Derived.Test.YtdiekiajedmaeaaJAbsSort
import Derived.Test.YtdiekiajedmaeaaJAbsLaw
import Derived.KernelRfl
set_option linter.all false
/- Walks of the library's sorting: a comparing function; insertion sort. -/
set_option linter.unusedSimpArgs false
set_option linter.unusedVariables false
set_option maxRecDepth 100000
set_option maxHeartbeats 4000000
namespace Go.Abs
open Go
attribute [local go_sem_proc] Nat.reduceLT Nat.reduceEqDiff Nat.reduceLeDiff Nat.reduceAdd Nat.reduceSub Nat.reduceMul Int.reduceLT Int.reduceLE Int.reduceEq Int.reduceNeg
attribute [local go_sem_proc ↓] reduceIte

abbrev stI (σ : Sto) (o : Nat) (nl : Bool) (D : List Int) : Sto := σ.set o (.cells nl (D.map fun n => .int .i64 n))
theorem ZH {σ : Sto} {o : Nat} {nl : Bool} {D : List Int} (h : o < σ.length) : (stI σ o nl D)[o]? = some (.cells nl (D.map fun n => .int .i64 n)) := List.getElem?_set_self h
theorem Za4 {σ : Sto} {o : Nat} {nl : Bool} {D D' : List Int} : (stI σ o nl D).set o (.cells nl (D'.map fun n => .int .i64 n)) = stI σ o nl D' := List.set_set ..

def Zvy (σ : Sto) (o : Nat) (nl : Bool) (g : FuncId) (fs cs : List AVal) (r : Int → Int → Bool) (p : Int → Prop) : Prop := ∀ (E : Sto) (x y : Int) (D : List Int), p x → p y → ∃ c : Int, decide (c < 0) = r x y ∧ ∀ {Q : Zg} {k : List Item} {os : List AOper} {d : Option Nat} {e : Env},
 Zp T Q k os d e (stI (σ ++ E) o nl D) true i_Xq40 [.int .i64 x, .int .i64 y] ↔ Run T Q (.ops os :: k) (put e d (.bool (decide (c < 0)))) (stI (σ ++ E) o nl D)

structure Srt (σ : Sto) (o : Nat) (nl : Bool) (g : FuncId) (fs cs : List AVal) (r : Int → Int → Bool) (p : Int → Prop) : Prop extends Tot r p where
 lt : o < σ.length
 cmp : Zvy σ o nl g fs cs r p
theorem Srt.app {σ : Sto} {o : Nat} {nl : Bool} {g : FuncId} {fs cs : List AVal} {r : Int → Int → Bool} {p : Int → Prop} (h : Srt σ o nl g fs cs r p) (E : Sto) : Srt (σ ++ E) o nl g fs cs r p :=
 ⟨h.toTot, by have := h.lt; simp; omega, fun F x y D hx hy => by
  have := h.cmp (E ++ F) x y D hx hy
  rwa [← List.append_assoc] at this⟩
theorem Srt.at {σ : Sto} {o : Nat} {nl : Bool} {g : FuncId} {fs cs : List AVal} {r : Int → Int → Bool} {p : Int → Prop} (h : Srt σ o nl g fs cs r p) (x y : Int) (D : List Int) (hx : p x) (hy : p y) : ∃ c : Int, decide (c < 0) = r x y ∧ ∀ {Q : Zg} {k : List Item} {os : List AOper} {d : Option Nat} {e : Env},
 Zp T Q k os d e (stI σ o nl D) true i_Xq40 [.int .i64 x, .int .i64 y] ↔ Run T Q (.ops os :: k) (put e d (.bool (decide (c < 0)))) (stI σ o nl D) := by
 have := h.cmp [] x y D hx hy
 rwa [List.append_nil] at this

theorem Zhp {a b : Nat} (h : a + b < 9223372036854775808) : IntKind.i64.wrap ((a : Int) + (b : Int)) = ((a + b : Nat) : Int) := by rw [Zi (by omega) (by omega)]; omega
theorem ZeE {a b : Nat} (h : a < 9223372036854775808) (hb : b ≤ a) : IntKind.i64.wrap ((a : Int) - (b : Int)) = ((a - b : Nat) : Int) := by rw [Zi (by omega) (by omega)]; omega
theorem Zhb {a : Nat} (h : a < 9223372036854775807) : IntKind.i64.wrap (((a + 1 : Nat) : Int) - 1) = (a : Int) := by rw [Zi (by omega) (by omega)]; omega

section
variable {σ : Sto} {o : Nat} {nl : Bool} {g : FuncId} {fs cs : List AVal} {r : Int → Int → Bool} {p : Int → Prop}

theorem Zse (S : Srt σ o nl g fs cs r p) {N a b i : Nat} {Q : Zg} (hN : N < 1000000) (hab : a < i) (hib : i < b) (hbN : b ≤ N) : ∀ (j : Nat) (D : List Int), D.length = N → (∀ x ∈ D, p x) → a ≤ j → j ≤ i → Ins r D a i j →
  (∀ D', Seg a b D D' → Zw r D' a (i + 1) → Run T Q (.inLoop Xq4.b0 :: Xq4.k0) (mkE 49 [(0, .ref o N 0 N 1), (1, .int .i64 a), (2, .int .i64 b), (6, .int .i64 ((i + 1 : Nat) : Int))]) (stI σ o nl D')) →
  Run T Q (.inLoop Xq4.b1 :: Xq4.k1) (mkE 49 [(0, .ref o N 0 N 1), (1, .int .i64 a), (2, .int .i64 b), (6, .int .i64 i), (7, .int .i64 j)]) (stI σ o nl D) := by
 intro j
 induction j with
 | zero =>
  intro D hD hp ha hi hI next
  have : a = 0 := by omega
  subst this
  have := next D (Seg.refl _ _ _) (Zff S.toOrd3 (by omega) hi hI hp (.inl (Nat.le_refl _)))
  rw [Zb, Za Xq4.b1.eq_1]
  simp (maxSteps := 2000000) only [go_sem, Za Xq4.c0.eq_1, Za Xq4.c1.eq_1, Xq4.k0, Xq4.k1, Zj (show i < 9223372036854775807 by omega), Int.natCast_zero, Int.ofNat_zero]
  exact this
 | succ j ih =>
  intro D hD hp ha hi hI next
  by_cases haj : a = j + 1
  ·have := next D (Seg.refl _ _ _) (Zff S.toOrd3 (by omega) hi hI hp (.inl (by omega)))
   subst haj
   rw [Zb, Za Xq4.b1.eq_1]
   simp (maxSteps := 2000000) only [go_sem, Za Xq4.c0.eq_1, Za Xq4.c1.eq_1, Xq4.k0, Xq4.k1, Zj (show i < 9223372036854775807 by omega), Int.lt_irrefl]
   exact this
  ·have h1 : j + 1 < D.length := by omega
   have h2 : j < D.length := by omega
   have h1N : j + 1 < N := by omega
   have h2N : j < N := by omega
   obtain ⟨c, hcr, hcall⟩ := S.at D[j + 1] D[j] D (hp _ (List.getElem_mem h1)) (hp _ (List.getElem_mem h2))
   have hw := Zhb (a := j) (by omega)
   have hpos : (a : Int) < ((j + 1 : Nat) : Int) := by omega
   have hget := ZH (nl := nl) (D := D) S.lt
   cases hr : r D[j + 1] D[j]
   ·have hcn : ¬ c < 0 := by simpa [hr] using hcr
    have := next D (Seg.refl _ _ _) (Zff S.toOrd3 (by omega) hi hI hp (.inr (by rw [Nat.add_sub_cancel, Zy h1, Zy h2]; exact hr)))
    rw [Zb, Za Xq4.b1.eq_1]
    simp (maxSteps := 2000000) only [go_sem, hpos, hget, hD, h1, h2, h1N, h2N, hw, hcall, hcn, Za Xq4.c0.eq_1, Za Xq4.c1.eq_1, Xq4.k0, Xq4.k1, Zj (show i < 9223372036854775807 by omega)]
    exact this
   ·have hcn : c < 0 := by simpa [hr] using hcr
    have hk1 : j + 1 + 1 ≤ N := by omega
    have hk2 : j + 1 ≤ N := by omega
    have hget2 := ZH (nl := nl) (D := D.set (j + 1) D[j]) S.lt
    have := ih (sw D (j + 1) j) (by rw [ZbS]; exact hD) (fun x hx => hp x ((ZbB h1 h2).mem_iff.1 hx)) (by omega) (by omega) (Zj5 S.toOrd3 (by omega) (by omega) hi hI hp (by rw [Zy h1, Zy h2]; exact hr))
     (fun D' hs hso => next D' ((Seg.swap (by omega) (by omega) (by omega) (by omega) (by omega)).trans hs) hso)
    rw [Zb, Za Xq4.b1.eq_1]
    simp (maxSteps := 2000000) only [go_sem, hpos, hget, hget2, hD, h1, h2, h1N, h2N, hw, hcall, hcn, hk1, hk2, Za4, List.length_set, List.length_map]
    rw [ZcD h1 h2]
    exact this

theorem Zsf (S : Srt σ o nl g fs cs r p) {N a b : Nat} {R : Zs} (hN : N < 1000000) (hbN : b ≤ N) : ∀ (m i : Nat) (D : List Int), b - i = m → D.length = N → (∀ x ∈ D, p x) → a < i → Zw r D a i →
  (∀ D', Seg a b D D' → Zw r D' a b → R (.tup []) (stI σ o nl D')) →
  Run T (Ret [] R) (.inLoop Xq4.b0 :: Xq4.k0) (mkE 49 [(0, .ref o N 0 N 1), (1, .int .i64 a), (2, .int .i64 b), (6, .int .i64 i)]) (stI σ o nl D) := by
 intro m
 induction m with
 | zero =>
  intro i D hm hD hp ha hs next
  have h : ¬ (i : Int) < b := by omega
  have := next D (Seg.refl _ _ _) (fun u v hu huv hv => hs u v hu huv (by omega))
  rw [Zb, Za Xq4.b0.eq_1]
  simp (maxSteps := 2000000) only [go_sem, h, Za Xq4.c0.eq_1, Za Xq4.c1.eq_1, Xq4.k0, Xq4.k1]
  exact this
 | succ m ih =>
  intro i D hm hD hp ha hs next
  have h : (i : Int) < b := by omega
  rw [Zb, Za Xq4.b0.eq_1]
  simp (maxSteps := 2000000) only [go_sem, h]
  refine Zse S hN ha (by omega) hbN i D hD hp (by omega) (Nat.le_refl _) (Zns hs) fun D' hs' hso => ?_
  exact ih (i + 1) D' (by omega) (hs'.len.trans hD) (fun x hx => hp x (hs'.perm.mem_iff.1 hx)) (by omega) hso fun D'' h1 h2 => next D'' (hs'.trans h1) h2

theorem Zfe (S : Srt σ o nl g fs cs r p) {N a b : Nat} {D : List Int} {R : Zs} (hN : N < 1000000) (hab : a ≤ b) (hbN : b ≤ N) (hD : D.length = N) (hp : ∀ x ∈ D, p x)
  (next : ∀ D', Seg a b D D' → Zw r D' a b → R (.tup []) (stI σ o nl D')) : Cw T false i_Xq4 [.ref o N 0 N 1, .int .i64 a, .int .i64 b] [] (stI σ o nl D) R := by
 rw [ZS T_Xq4 (by simp), Za Xq4.main.eq_1]
 simp (maxSteps := 2000000) only [go_sem, Zj (show a < 9223372036854775807 by omega)]
 exact Zsf S hN hbN _ (a + 1) D rfl hD hp (by omega) (fun u v hu huv hv => by omega) next
end
end Go.Abs
/- Walks of the library's sorting: partition. -/
set_option linter.unusedSimpArgs false
set_option linter.unusedVariables false
set_option maxRecDepth 100000
set_option maxHeartbeats 4000000
namespace Go.Abs
open Go
attribute [local go_sem_proc] Nat.reduceLT Nat.reduceEqDiff Nat.reduceLeDiff Nat.reduceAdd Nat.reduceSub Nat.reduceMul Int.reduceLT Int.reduceLE Int.reduceEq Int.reduceNeg
attribute [local go_sem_proc ↓] reduceIte

section
variable {σ : Sto} {o : Nat} {nl : Bool} {g : FuncId} {fs cs : List AVal} {r : Int → Int → Bool} {p : Int → Prop}

structure Mid (r : Int → Int → Bool) (a b i j : Nat) (D : List Int) : Prop where
 lo : a < i
 ij : i ≤ j + 1
 hi : j < b
 less : ∀ k, a < k → k < i → r (gd D k) (gd D a) = true
 more : ∀ k, j < k → k < b → r (gd D k) (gd D a) = false
theorem Mid.swap {a b i j : Nat} {D : List Int} (h : Mid r a b i j D) (hb : b ≤ D.length) (hij : i ≤ j) (h1 : r (gd D i) (gd D a) = false) (h2 : r (gd D j) (gd D a) = true) : Mid r a b (i + 1) (j - 1) (sw D i j) := by
 have hne : i ≠ j := fun e => by rw [e, h2] at h1; cases h1
 have l := h.lo
 have hh := h.hi
 have ea : gd (sw D i j) a = gd D a := by rw [ZcC (by omega) (by omega), if_neg (by omega), if_neg (by omega)]
 refine ⟨by omega, by omega, by omega, fun k hk hk' => ?_, fun k hk hk' => ?_⟩
 ·rw [ea, ZcC (by omega) (by omega), if_neg (by omega)]
  split
  ·exact h2
  ·exact h.less k hk (by omega)
 ·rw [ea, ZcC (by omega) (by omega)]
  split
  ·exact h1
  ·rw [if_neg (by omega)]; exact h.more k (by omega) hk'
theorem Mid.done {a b i j : Nat} {D : List Int} (h : Mid r a b i j D) (hb : b ≤ D.length) (hij : j < i) : a ≤ j ∧ (∀ k, a ≤ k → k < j → r (gd (sw D j a) k) (gd (sw D j a) j) = true) ∧ (∀ k, j < k → k < b → r (gd (sw D j a) k) (gd (sw D j a) j) = false) := by
 have l := h.lo
 have hh := h.hi
 have hij' := h.ij
 have ej : gd (sw D j a) j = gd D a := by
  rw [ZcC (by omega) (by omega)]
  split
  ·rename_i e; rw [e]
  ·rw [if_pos rfl]
 refine ⟨by omega, fun k hk hk' => ?_, fun k hk hk' => ?_⟩
 ·rw [ej, ZcC (by omega) (by omega)]
  split
  ·exact h.less j (by omega) (by omega)
  ·rw [if_neg (by omega)]; exact h.less k (by omega) (by omega)
 ·rw [ej, ZcC (by omega) (by omega), if_neg (by omega), if_neg (by omega)]
  exact h.more k hk hk'

theorem Zqr (S : Srt σ o nl g fs cs r p) {N a b j i0 : Nat} {Q : Zg} {D : List Int} (hN : N < 1000000) (hbN : b ≤ N) (hD : D.length = N) (hp : ∀ x ∈ D, p x)
  (next : ∀ i, i0 ≤ i → Mid r a b i j D → (i ≤ j → r (gd D i) (gd D a) = false) → Run T Q (.inLoop Xq7.b1 :: Xq7.k1) (mkE 168 [(0, .ref o N 0 N 1), (1, .int .i64 a), (10, .int .i64 i), (11, .int .i64 j)]) (stI σ o nl D)) : ∀ (m i : Nat), j + 1 - i = m → i0 ≤ i → Mid r a b i j D →
  Run T Q (.inLoop Xq7.b0 :: Xq7.k0) (mkE 168 [(0, .ref o N 0 N 1), (1, .int .i64 a), (10, .int .i64 i), (11, .int .i64 j)]) (stI σ o nl D) := by
 intro m
 induction m with
 | zero =>
  intro i hm h0 hM
  have hlt : ¬ (i : Int) ≤ j := by omega
  have := next i h0 hM (fun h => by omega)
  rw [Zb, Za Xq7.b0.eq_1]
  simp (maxSteps := 2000000) only [go_sem, hlt, Xq7.k0, Za Xq7.c4.eq_1]
  exact this
 | succ m ih =>
  intro i hm h0 hM
  have hlo := hM.lo
  have hij : i ≤ j := by omega
  have hlt : (i : Int) ≤ j := by omega
  have hhi := hM.hi
  have h1 : i < D.length := by omega
  have h2 : a < D.length := by omega
  have h1N : i < N := by omega
  have h2N : a < N := by omega
  obtain ⟨c, hcr, hcall⟩ := S.at D[i] D[a] D (hp _ (List.getElem_mem h1)) (hp _ (List.getElem_mem h2))
  have hget := ZH (nl := nl) (D := D) S.lt
  cases hr : r D[i] D[a]
  ·have hcn : ¬ c < 0 := by simpa [hr] using hcr
   have := next i h0 hM (fun h => by rw [Zy h1, Zy h2]; exact hr)
   rw [Zb, Za Xq7.b0.eq_1]
   simp (maxSteps := 2000000) only [go_sem, hlt, hget, hD, h1, h2, h1N, h2N, hcall, hcn, Xq7.k0, Za Xq7.c4.eq_1]
   exact this
  ·have hcn : c < 0 := by simpa [hr] using hcr
   have := ih (i + 1) (by omega) (by omega) ⟨by omega, by omega, hhi, fun k hk hk' => by
    by_cases e : k = i
    ·rw [e, Zy h1, Zy h2]; exact hr
    ·exact hM.less k hk (by omega), hM.more⟩
   rw [Zb, Za Xq7.b0.eq_1]
   simp (maxSteps := 2000000) only [go_sem, hlt, hget, hD, h1, h2, h1N, h2N, hcall, hcn, Zj (show i < 9223372036854775807 by omega)]
   exact this

theorem Zqs (S : Srt σ o nl g fs cs r p) {N a b i j0 : Nat} {Q : Zg} {D : List Int} (hN : N < 1000000) (hbN : b ≤ N) (hD : D.length = N) (hp : ∀ x ∈ D, p x)
  (next : ∀ j, j ≤ j0 → Mid r a b i j D → (i ≤ j → r (gd D j) (gd D a) = true) → Run T Q ([.code Xq7.c3]) (mkE 168 [(0, .ref o N 0 N 1), (1, .int .i64 a), (10, .int .i64 i), (11, .int .i64 j)]) (stI σ o nl D)) : ∀ (m j : Nat), j + 1 - i = m → j ≤ j0 → Mid r a b i j D →
  Run T Q (.inLoop Xq7.b1 :: Xq7.k1) (mkE 168 [(0, .ref o N 0 N 1), (1, .int .i64 a), (10, .int .i64 i), (11, .int .i64 j)]) (stI σ o nl D) := by
 intro m
 induction m with
 | zero =>
  intro j hm h0 hM
  have hlt : ¬ (i : Int) ≤ j := by omega
  have := next j h0 hM (fun h => by omega)
  rw [Zb, Za Xq7.b1.eq_1]
  simp (maxSteps := 2000000) only [go_sem, hlt, Xq7.k1]
  exact this
 | succ m ih =>
  intro j hm h0 hM
  have hlo := hM.lo
  have hij : i ≤ j := by omega
  have hlt : (i : Int) ≤ j := by omega
  have hhi := hM.hi
  have h1 : j < D.length := by omega
  have h2 : a < D.length := by omega
  have h1N : j < N := by omega
  have h2N : a < N := by omega
  obtain ⟨c, hcr, hcall⟩ := S.at D[j] D[a] D (hp _ (List.getElem_mem h1)) (hp _ (List.getElem_mem h2))
  have hget := ZH (nl := nl) (D := D) S.lt
  cases hr : r D[j] D[a]
  ·have hcn : ¬ c < 0 := by simpa [hr] using hcr
   obtain ⟨j', rfl⟩ : ∃ j', j = j' + 1 := ⟨j - 1, by omega⟩
   have hw := Zhb (a := j') (by omega)
   have := ih j' (by omega) (by omega) ⟨hlo, by omega, by omega, hM.less, fun k hk hk' => by
    by_cases e : k = j' + 1
    ·rw [e, Zy h1, Zy h2]; exact hr
    ·exact hM.more k (by omega) hk'⟩
   rw [Zb, Za Xq7.b1.eq_1]
   simp (maxSteps := 2000000) only [go_sem, hlt, hget, hD, h1, h2, h1N, h2N, hcall, hcn, hw]
   exact this
  ·have hcn : c < 0 := by simpa [hr] using hcr
   have := next j h0 hM (fun h => by rw [Zy h1, Zy h2]; exact hr)
   rw [Zb, Za Xq7.b1.eq_1]
   simp (maxSteps := 2000000) only [go_sem, hlt, hget, hD, h1, h2, h1N, h2N, hcall, hcn, Xq7.k1]
   exact this

theorem ZlD (S : Srt σ o nl g fs cs r p) {N a b j i0 : Nat} {Q : Zg} {D : List Int} (hN : N < 1000000) (hbN : b ≤ N) (hD : D.length = N) (hp : ∀ x ∈ D, p x)
  (next : ∀ i, i0 ≤ i → Mid r a b i j D → (i ≤ j → r (gd D i) (gd D a) = false) → Run T Q (.inLoop Xq7.b4 :: Xq7.k4) (mkE 168 [(0, .ref o N 0 N 1), (1, .int .i64 a), (10, .int .i64 i), (11, .int .i64 j)]) (stI σ o nl D)) : ∀ (m i : Nat), j + 1 - i = m → i0 ≤ i → Mid r a b i j D →
  Run T Q (.inLoop Xq7.b3 :: Xq7.k3) (mkE 168 [(0, .ref o N 0 N 1), (1, .int .i64 a), (10, .int .i64 i), (11, .int .i64 j)]) (stI σ o nl D) := by
 intro m
 induction m with
 | zero =>
  intro i hm h0 hM
  have hlt : ¬ (i : Int) ≤ j := by omega
  have := next i h0 hM (fun h => by omega)
  rw [Zb, Za Xq7.b3.eq_1]
  simp (maxSteps := 2000000) only [go_sem, hlt, Xq7.k3, Za Xq7.c2.eq_1]
  exact this
 | succ m ih =>
  intro i hm h0 hM
  have hlo := hM.lo
  have hij : i ≤ j := by omega
  have hlt : (i : Int) ≤ j := by omega
  have hhi := hM.hi
  have h1 : i < D.length := by omega
  have h2 : a < D.length := by omega
  have h1N : i < N := by omega
  have h2N : a < N := by omega
  obtain ⟨c, hcr, hcall⟩ := S.at D[i] D[a] D (hp _ (List.getElem_mem h1)) (hp _ (List.getElem_mem h2))
  have hget := ZH (nl := nl) (D := D) S.lt
  cases hr : r D[i] D[a]
  ·have hcn : ¬ c < 0 := by simpa [hr] using hcr
   have := next i h0 hM (fun h => by rw [Zy h1, Zy h2]; exact hr)
   rw [Zb, Za Xq7.b3.eq_1]
   simp (maxSteps := 2000000) only [go_sem, hlt, hget, hD, h1, h2, h1N, h2N, hcall, hcn, Xq7.k3, Za Xq7.c2.eq_1]
   exact this
  ·have hcn : c < 0 := by simpa [hr] using hcr
   have := ih (i + 1) (by omega) (by omega) ⟨by omega, by omega, hhi, fun k hk hk' => by
    by_cases e : k = i
    ·rw [e, Zy h1, Zy h2]; exact hr
    ·exact hM.less k hk (by omega), hM.more⟩
   rw [Zb, Za Xq7.b3.eq_1]
   simp (maxSteps := 2000000) only [go_sem, hlt, hget, hD, h1, h2, h1N, h2N, hcall, hcn, Zj (show i < 9223372036854775807 by omega)]
   exact this

theorem ZlE (S : Srt σ o nl g fs cs r p) {N a b i j0 : Nat} {Q : Zg} {D : List Int} (hN : N < 1000000) (hbN : b ≤ N) (hD : D.length = N) (hp : ∀ x ∈ D, p x)
  (next : ∀ j, j ≤ j0 → Mid r a b i j D → (i ≤ j → r (gd D j) (gd D a) = true) → Run T Q (.code Xq7.c1 :: .inBlock 5 :: .inLoop Xq7.b2 :: Xq7.k2) (mkE 168 [(0, .ref o N 0 N 1), (1, .int .i64 a), (10, .int .i64 i), (11, .int .i64 j)]) (stI σ o nl D)) : ∀ (m j : Nat), j + 1 - i = m → j ≤ j0 → Mid r a b i j D →
  Run T Q (.inLoop Xq7.b4 :: Xq7.k4) (mkE 168 [(0, .ref o N 0 N 1), (1, .int .i64 a), (10, .int .i64 i), (11, .int .i64 j)]) (stI σ o nl D) := by
 intro m
 induction m with
 | zero =>
  intro j hm h0 hM
  have hlt : ¬ (i : Int) ≤ j := by omega
  have := next j h0 hM (fun h => by omega)
  rw [Zb, Za Xq7.b4.eq_1]
  simp (maxSteps := 2000000) only [go_sem, hlt, Xq7.k4]
  exact this
 | succ m ih =>
  intro j hm h0 hM
  have hlo := hM.lo
  have hij : i ≤ j := by omega
  have hlt : (i : Int) ≤ j := by omega
  have hhi := hM.hi
  have h1 : j < D.length := by omega
  have h2 : a < D.length := by omega
  have h1N : j < N := by omega
  have h2N : a < N := by omega
  obtain ⟨c, hcr, hcall⟩ := S.at D[j] D[a] D (hp _ (List.getElem_mem h1)) (hp _ (List.getElem_mem h2))
  have hget := ZH (nl := nl) (D := D) S.lt
  cases hr : r D[j] D[a]
  ·have hcn : ¬ c < 0 := by simpa [hr] using hcr
   obtain ⟨j', rfl⟩ : ∃ j', j = j' + 1 := ⟨j - 1, by omega⟩
   have hw := Zhb (a := j') (by omega)
   have := ih j' (by omega) (by omega) ⟨hlo, by omega, by omega, hM.less, fun k hk hk' => by
    by_cases e : k = j' + 1
    ·rw [e, Zy h1, Zy h2]; exact hr
    ·exact hM.more k (by omega) hk'⟩
   rw [Zb, Za Xq7.b4.eq_1]
   simp (maxSteps := 2000000) only [go_sem, hlt, hget, hD, h1, h2, h1N, h2N, hcall, hcn, hw]
   exact this
  ·have hcn : c < 0 := by simpa [hr] using hcr
   have := next j h0 hM (fun h => by rw [Zy h1, Zy h2]; exact hr)
   rw [Zb, Za Xq7.b4.eq_1]
   simp (maxSteps := 2000000) only [go_sem, hlt, hget, hD, h1, h2, h1N, h2N, hcall, hcn, Xq7.k4]
   exact this

def Zfd (σ : Sto) (o : Nat) (nl : Bool) (r : Int → Int → Bool) (a b : Nat) (D : List Int) (R : Zs) : Prop := ∀ (mid : Nat) (D' : List Int) (x : Bool), a ≤ mid → mid < b → Seg a b D D' → (∀ k, a ≤ k → k < mid → r (gd D' k) (gd D' mid) = true) → (∀ k, mid < k → k < b → r (gd D' k) (gd D' mid) = false) → R (.tup [.int .i64 mid, .bool x]) (stI σ o nl D')

theorem ZlF (S : Srt σ o nl g fs cs r p) {N a b i j : Nat} {D : List Int} {R : Zs} (hN : N < 1000000) (hbN : b ≤ N) (hD : D.length = N) (hM : Mid r a b i j D) (hij : j < i) (next : Zfd σ o nl r a b D R) :
  Run T (Ret [.tmp 8, .tmp 9] R) [.code Xq7.c0] (mkE 168 [(0, .ref o N 0 N 1), (1, .int .i64 a), (11, .int .i64 j)]) (stI σ o nl D) := by
 have hlo := hM.lo
 have hhi := hM.hi
 obtain ⟨d1, d2, d3⟩ := hM.done (by omega) hij
 have h1 : j < D.length := by omega
 have h2 : a < D.length := by omega
 have h1N : j < N := by omega
 have h2N : a < N := by omega
 have hk1 : j + 1 ≤ N := by omega
 have hk2 : a + 1 ≤ N := by omega
 have hget := ZH (nl := nl) (D := D) S.lt
 have hget2 := ZH (nl := nl) (D := D.set j D[a]) S.lt
 have := next j (sw D j a) false d1 hhi (Seg.swap d1 hhi (Nat.le_refl _) (by omega) (by omega)) d2 d3
 rw [Za Xq7.c0.eq_1]
 simp (maxSteps := 2000000) only [go_sem, hget, hget2, hD, h1, h2, h1N, h2N, hk1, hk2, Za4, List.length_set, List.length_map]
 rw [ZcD h1 h2]
 exact this

theorem Zqt (S : Srt σ o nl g fs cs r p) {N a b : Nat} {R : Zs} (hN : N < 1000000) (hbN : b ≤ N) : ∀ (m i j : Nat) (D : List Int), j + 1 - i ≤ m → D.length = N → (∀ x ∈ D, p x) → Mid r a b i j D → Zfd σ o nl r a b D R →
  Run T (Ret [.tmp 8, .tmp 9] R) (.inLoop Xq7.b2 :: Xq7.k2) (mkE 168 [(0, .ref o N 0 N 1), (1, .int .i64 a), (10, .int .i64 i), (11, .int .i64 j)]) (stI σ o nl D) := by
 intro m
 induction m with
 | zero =>
  intro i j D hm hD hp hM next
  rw [Zb, Za Xq7.b2.eq_1]
  simp (maxSteps := 2000000) only [go_sem]
  refine ZlD S hN hbN hD hp (fun i2 hi2 hM2 _ => ?_) _ i rfl (Nat.le_refl _) hM
  refine ZlE S hN hbN hD hp (fun j2 hj2 hM3 _ => ?_) _ j rfl (Nat.le_refl _) hM2
  have hgt : (j2 : Int) < i2 := by omega
  rw [Za Xq7.c1.eq_1]
  simp (maxSteps := 2000000) only [go_sem, hgt, Xq7.k2]
  exact ZlF S hN hbN hD hM3 (by omega) next
 | succ m ih =>
  intro i j D hm hD hp hM next
  rw [Zb, Za Xq7.b2.eq_1]
  simp (maxSteps := 2000000) only [go_sem]
  refine ZlD S hN hbN hD hp (fun i2 hi2 hM2 hr1 => ?_) _ i rfl (Nat.le_refl _) hM
  refine ZlE S hN hbN hD hp (fun j2 hj2 hM3 hr2 => ?_) _ j rfl (Nat.le_refl _) hM2
  rw [Za Xq7.c1.eq_1]
  by_cases hij : i2 ≤ j2
  ·have hgt : ¬ (j2 : Int) < i2 := by omega
   have hlo := hM3.lo
   have hhi := hM3.hi
   have h1 : i2 < D.length := by omega
   have h2 : j2 < D.length := by omega
   have h1N : i2 < N := by omega
   have h2N : j2 < N := by omega
   have hk1 : i2 + 1 ≤ N := by omega
   have hk2 : j2 + 1 ≤ N := by omega
   have hget := ZH (nl := nl) (D := D) S.lt
   have hget2 := ZH (nl := nl) (D := D.set i2 D[j2]) S.lt
   have hb : r (gd D i2) (gd D a) = false := by
    by_cases e : i2 ≤ j
    ·exact hr1 e
    ·omega
   have hwj : IntKind.i64.wrap ((j2 : Int) - 1) = ((j2 - 1 : Nat) : Int) := by rw [Zi (by omega) (by omega)]; omega
   have := ih (i2 + 1) (j2 - 1) (sw D i2 j2) (by omega) (by rw [ZbS]; exact hD) (fun x hx => hp x ((ZbB h1 h2).mem_iff.1 hx)) (hM3.swap (by omega) hij hb (hr2 hij))
    (fun mid D' x q1 q2 q3 q4 q5 => next mid D' x q1 q2 ((Seg.swap (by omega) (by omega) (by omega) (by omega) (by omega)).trans q3) q4 q5)
   simp (maxSteps := 2000000) only [go_sem, hgt, hget, hget2, hD, h1, h2, h1N, h2N, hk1, hk2, Za4, List.length_set, List.length_map, hwj, Zj (show i2 < 9223372036854775807 by omega)]
   rw [ZcD h1 h2]
   exact this
  ·have hgt : (j2 : Int) < i2 := by omega
   simp (maxSteps := 2000000) only [go_sem, hgt, Xq7.k2]
   exact ZlF S hN hbN hD hM3 (by omega) next

theorem Zed (S : Srt σ o nl g fs cs r p) {N a b pv : Nat} {D : List Int} {R : Zs} (hN : N < 1000000) (hap : a ≤ pv) (hpb : pv < b) (hbN : b ≤ N) (hD : D.length = N) (hp : ∀ x ∈ D, p x)
  (next : Zfd σ o nl r a b D R) : Cw T false i_Xq7 [.ref o N 0 N 1, .int .i64 a, .int .i64 b, .int .i64 pv] [] (stI σ o nl D) R := by
 rw [ZS T_Xq7 (by simp), Za Xq7.main.eq_1]
 have h1 : a < D.length := by omega
 have h2 : pv < D.length := by omega
 have h1N : a < N := by omega
 have h2N : pv < N := by omega
 have hk1 : a + 1 ≤ N := by omega
 have hk2 : pv + 1 ≤ N := by omega
 have hget := ZH (nl := nl) (D := D) S.lt
 have hget2 := ZH (nl := nl) (D := D.set a D[pv]) S.lt
 have hwb : IntKind.i64.wrap ((b : Int) - 1) = ((b - 1 : Nat) : Int) := by rw [Zi (by omega) (by omega)]; omega
 have next1 : Zfd σ o nl r a b (sw D a pv) R := fun mid D' x q1 q2 q3 q4 q5 => next mid D' x q1 q2 ((Seg.swap (by omega) (by omega) (by omega) (by omega) (by omega)).trans q3) q4 q5
 have hp1 : ∀ x ∈ sw D a pv, p x := fun x hx => hp x ((ZbB h1 h2).mem_iff.1 hx)
 have hD1 : (sw D a pv).length = N := by rw [ZbS]; exact hD
 simp (maxSteps := 2000000) only [go_sem, hget, hget2, hD, h1, h2, h1N, h2N, hk1, hk2, Za4, List.length_set, List.length_map, hwb, Zj (show a < 9223372036854775807 by omega)]
 rw [ZcD h1 h2]
 generalize sw D a pv = D1 at next1 hp1 hD1 ⊢
 have hM : Mid r a b (a + 1) (b - 1) D1 := ⟨by omega, by omega, by omega, fun k hk hk' => by omega, fun k hk hk' => by omega⟩
 refine Zqr S hN hbN hD1 hp1 (fun i hi hM2 hr1 => ?_) _ (a + 1) rfl (Nat.le_refl _) hM
 refine Zqs S hN hbN hD1 hp1 (fun j hj hM3 hr2 => ?_) _ (b - 1) rfl (Nat.le_refl _) hM2
 rw [Za Xq7.c3.eq_1]
 have hlo := hM3.lo
 have hhi := hM3.hi
 have h2' : a < D1.length := by omega
 by_cases hij : i ≤ j
 ·have hgt : ¬ (j : Int) < i := by omega
  have h3 : i < D1.length := by omega
  have h4 : j < D1.length := by omega
  have h3N : i < N := by omega
  have h4N : j < N := by omega
  have hk3 : i + 1 ≤ N := by omega
  have hk4 : j + 1 ≤ N := by omega
  have hg3 := ZH (nl := nl) (D := D1) S.lt
  have hg4 := ZH (nl := nl) (D := D1.set i D1[j]) S.lt
  have hwj : IntKind.i64.wrap ((j : Int) - 1) = ((j - 1 : Nat) : Int) := by rw [Zi (by omega) (by omega)]; omega
  have := Zqt S hN hbN (R := R) _ (i + 1) (j - 1) (sw D1 i j) (Nat.le_refl _) (by rw [ZbS]; exact hD1) (fun x hx => hp1 x ((ZbB h3 h4).mem_iff.1 hx)) (hM3.swap (by omega) hij (hr1 (by omega)) (hr2 hij))
   (fun mid D' x q1 q2 q3 q4 q5 => next1 mid D' x q1 q2 ((Seg.swap (by omega) (by omega) (by omega) (by omega) (by omega)).trans q3) q4 q5)
  simp (maxSteps := 2000000) only [go_sem, hgt, hg3, hg4, hD1, h3, h4, h3N, h4N, hk3, hk4, Za4, List.length_set, List.length_map, hwj, Zj (show i < 9223372036854775807 by omega)]
  rw [ZcD h3 h4]
  exact this
 ·have hgt : (j : Int) < i := by omega
  obtain ⟨d1, d2, d3⟩ := hM3.done (by omega) (by omega)
  have h4 : j < D1.length := by omega
  have h4N : j < N := by omega
  have hk4 : j + 1 ≤ N := by omega
  have hk5 : a + 1 ≤ N := by omega
  have hg3 := ZH (nl := nl) (D := D1) S.lt
  have hg4 := ZH (nl := nl) (D := D1.set j D1[a]) S.lt
  have := next1 j (sw D1 j a) true d1 hhi (Seg.swap d1 hhi (Nat.le_refl _) (by omega) (by omega)) d2 d3
  simp (maxSteps := 2000000) only [go_sem, hgt, hg3, hg4, hD1, h4, h2', h1N, h4N, hk4, hk5, Za4, List.length_set, List.length_map]
  rw [ZcD h4 h2']
  exact this
end
end Go.Abs
