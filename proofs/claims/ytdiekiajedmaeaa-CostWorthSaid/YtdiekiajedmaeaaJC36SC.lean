/- Parts of the proof: C36SC, C36SD, C36SE, C36SF, C36SG, C36T, C36U, C36V, C36C, C36D, C36W, C36XA, C36XB, C36XC, C36Y, C36M, C36N, C36O, C36P, C36E, C36G, C36EX, C36H, C36Q, C36R, C36QB. -/
import Derived.Test.YtdiekiajedmaeaaJC36SA
import Derived.Test.YtdiekiajedmaeaaAbsHeap
import Derived.Test.YtdiekiajedmaeaaJC36A
import Derived.Test.YtdiekiajedmaeaaC36F
import Derived.Test.YtdiekiajedmaeaaAbsVal
import Derived.Test.YtdiekiajedmaeaaJAbsLaw
import Derived.KernelRfl
set_option linter.all false
/- Walks of the library's sorting: a heap. -/
set_option linter.unusedSimpArgs false
set_option linter.unusedVariables false
set_option maxRecDepth 100000
set_option maxHeartbeats 4000000
namespace Go.Abs
open Go
attribute [local go_sem_proc] Nat.reduceLT Nat.reduceEqDiff Nat.reduceLeDiff Nat.reduceAdd Nat.reduceSub Nat.reduceMul Int.reduceLT Int.reduceLE Int.reduceEq Int.reduceNeg
attribute [local go_sem_proc ↓] reduceIte

section
variable {σ : Sto} {o : Nat} {nl : Bool} {g : FuncId} {fs cs : List AVal} {r : Int → Int → Bool} {p : Int → Prop}

theorem ZqZ {a : Nat} (h : a < 4611686018427387904) : IntKind.i64.wrap (2 * (a : Int)) = ((2 * a : Nat) : Int) := by rw [Zi (by omega) (by omega)]; omega

theorem ZiU (S : Srt σ o nl g fs cs r p) {N hi f root c lo : Nat} {D : List Int} {R : Zs} (hN : N < 1000000) (hfN : f + hi ≤ N) (hD : D.length = N) (hp : ∀ x ∈ D, p x) (hlo : lo ≤ root) (hH : HeapBut r D f lo hi root) (hc : c = 2 * root + 1 ∨ c = 2 * root + 2) (hch : c < hi)
  (hbig : ∀ d, (d = 2 * root + 1 ∨ d = 2 * root + 2) → d < hi → r (gd D (f + c)) (gd D (f + d)) = false)
  (done : Zhq r D f lo hi → R (.tup []) (stI σ o nl D))
  (next : HeapBut r (sw D (f + root) (f + c)) f lo hi c → Run T (Ret [] R) (.inLoop Xq8.b0 :: Xq8.k0) (mkE 76 [(0, .ref o N 0 N 1), (2, .int .i64 hi), (3, .int .i64 f), (8, .int .i64 c)]) (stI σ o nl (sw D (f + root) (f + c)))) :
  Run T (Ret [] R) (.code Xq8.c1 :: .inBlock 1 :: .inLoop Xq8.b0 :: Xq8.k0) (mkE 76 [(0, .ref o N 0 N 1), (2, .int .i64 hi), (3, .int .i64 f), (8, .int .i64 root), (9, .int .i64 c)]) (stI σ o nl D) := by
 have h1 : f + root < D.length := by omega
 have h2 : f + c < D.length := by omega
 have h1N : f + root < N := by omega
 have h2N : f + c < N := by omega
 have hk1 : f + root + 1 ≤ N := by omega
 have hk2 : f + c + 1 ≤ N := by omega
 have w1 := Zhp (a := f) (b := root) (by omega)
 have w2 := Zhp (a := f) (b := c) (by omega)
 have hget := ZH (nl := nl) (D := D) S.lt
 have hget2 := ZH (nl := nl) (D := D.set (f + root) D[f + c]) S.lt
 obtain ⟨x, hcr, hcall⟩ := S.at D[f + root] D[f + c] D (hp _ (List.getElem_mem h1)) (hp _ (List.getElem_mem h2))
 rw [Za Xq8.c1.eq_1]
 cases hr : r D[f + root] D[f + c]
 ·have hcn : ¬ x < 0 := by simpa [hr] using hcr
  simp (maxSteps := 2000000) only [go_sem, hget, hD, h1, h2, h1N, h2N, w1, w2, hcall, hcn]
  refine done (Zhc hH fun d hd hdh => ?_)
  by_cases e : d = c
  ·rw [e, Zy h1, Zy h2]; exact hr
  ·exact S.trans _ _ _ (hp _ (Zae h1)) (hp _ (Zae h2)) (hp _ (Zae (by omega))) (by rw [Zy h1, Zy h2]; exact hr) (hbig d hd hdh)
 ·have hcn : x < 0 := by simpa [hr] using hcr
  have := next (Znt S.toOrd3 (by omega) hp hH hlo hc hch hbig (by rw [Zy h1, Zy h2]; exact hr))
  simp (maxSteps := 2000000) only [go_sem, hget, hget2, hD, h1, h2, h1N, h2N, hk1, hk2, w1, w2, hcall, hcn, Za4, List.length_set, List.length_map]
  rw [ZcD h1 h2]
  exact this

theorem Zqo (S : Srt σ o nl g fs cs r p) {N hi f lo : Nat} {R : Zs} (hN : N < 1000000) (hfN : f + hi ≤ N) : ∀ (m root : Nat) (D : List Int), hi - root ≤ m → D.length = N → (∀ x ∈ D, p x) → lo ≤ root → root < 1000000 → HeapBut r D f lo hi root →
  (∀ D', Seg f (f + hi) D D' → Zhq r D' f lo hi → R (.tup []) (stI σ o nl D')) →
  Run T (Ret [] R) (.inLoop Xq8.b0 :: Xq8.k0) (mkE 76 [(0, .ref o N 0 N 1), (2, .int .i64 hi), (3, .int .i64 f), (8, .int .i64 root)]) (stI σ o nl D) := by
 intro m
 induction m with
 | zero =>
  intro root D hm hD hp hlo hrt hH next
  have w := ZqZ (a := root) (by omega)
  have w' := Zj (n := 2 * root) (by omega)
  have hge : (hi : Int) ≤ ((2 * root + 1 : Nat) : Int) := by omega
  have := next D (Seg.refl _ _ _) (Zhc hH fun c hc hch => by omega)
  rw [Zb, Za Xq8.b0.eq_1]
  simp (maxSteps := 2000000) only [go_sem, w, w', hge, Za Xq8.c0.eq_1, Za Xq8.c1.eq_1, Xq8.k0]
  exact this
 | succ m ih =>
  intro root D hm hD hp hlo hrt hH next
  have w := ZqZ (a := root) (by omega)
  have w' := Zj (n := 2 * root) (by omega)
  have w'' := Zj (n := 2 * root + 1) (by omega)
  by_cases hc : 2 * root + 1 < hi
  ·have hge : ¬ (hi : Int) ≤ ((2 * root + 1 : Nat) : Int) := by omega
   have go : ∀ c, (c = 2 * root + 1 ∨ c = 2 * root + 2) → c < hi → HeapBut r (sw D (f + root) (f + c)) f lo hi c → Run T (Ret [] R) (.inLoop Xq8.b0 :: Xq8.k0) (mkE 76 [(0, .ref o N 0 N 1), (2, .int .i64 hi), (3, .int .i64 f), (8, .int .i64 c)]) (stI σ o nl (sw D (f + root) (f + c))) := fun c hc hch hb =>
    ih c _ (by omega) (by rw [ZbS]; exact hD) (fun x hx => hp x ((ZbB (by omega) (by omega)).mem_iff.1 hx)) (by omega) (by omega) hb fun D' h1 h2 => next D' ((Seg.swap (by omega) (by omega) (by omega) (by omega) (by omega)).trans h1) h2
   have dn : Zhq r D f lo hi → R (.tup []) (stI σ o nl D) := next D (Seg.refl _ _ _)
   have hx1 : f + (2 * root + 1) < D.length := by omega
   have irr : ∀ k, k < D.length → r (gd D k) (gd D k) = false := fun k hk => by
    cases hr : r (gd D k) (gd D k) with
    | false => rfl
    | true => have := S.asym _ _ (hp _ (Zae hk)) (hp _ (Zae hk)) hr; rw [hr] at this; cases this
   by_cases hc2 : 2 * root + 2 < hi
   ·have hlt : ((2 * root + 1 + 1 : Nat) : Int) < (hi : Int) := by omega
    have hx2 : f + (2 * root + 1) + 1 < D.length := by omega
    have hx1N : f + (2 * root + 1) < N := by omega
    have hx2N : f + (2 * root + 1) + 1 < N := by omega
    have w1 := Zhp (a := f) (b := 2 * root + 1) (by omega)
    have w2 := Zj (n := f + (2 * root + 1)) (by omega)
    have hget := ZH (nl := nl) (D := D) S.lt
    obtain ⟨x, hcr, hcall⟩ := S.at D[f + (2 * root + 1)] D[f + (2 * root + 1) + 1] D (hp _ (List.getElem_mem hx1)) (hp _ (List.getElem_mem hx2))
    cases hr : r D[f + (2 * root + 1)] D[f + (2 * root + 1) + 1]
    ·have hcn : ¬ x < 0 := by simpa [hr] using hcr
     have := ZiU S hN hfN hD hp hlo hH (.inl rfl) hc (fun d hd hdh => by
      rcases hd with rfl | rfl
      ·exact irr _ hx1
      ·rw [show f + (2 * root + 2) = f + (2 * root + 1) + 1 by omega, Zy hx1, Zy hx2]; exact hr) dn (go _ (.inl rfl) hc)
     rw [Zb, Za Xq8.b0.eq_1]
     simp (maxSteps := 2000000) only [go_sem, w, w', w'', hge, hlt, hget, hD, hx1, hx2, hx1N, hx2N, w1, w2, hcall, hcn]
     exact this
    ·have hcn : x < 0 := by simpa [hr] using hcr
     have := ZiU S hN hfN hD hp hlo hH (c := 2 * root + 1 + 1) (.inr (by omega)) (by omega) (fun d hd hdh => by
      rw [show f + (2 * root + 1 + 1) = f + (2 * root + 1) + 1 by omega]
      rcases hd with rfl | rfl
      ·rw [Zy hx1, Zy hx2]; exact S.asym _ _ (hp _ (List.getElem_mem hx1)) (hp _ (List.getElem_mem hx2)) hr
      ·rw [show f + (2 * root + 2) = f + (2 * root + 1) + 1 by omega]; exact irr _ hx2) dn (go _ (.inr (by omega)) (by omega))
     rw [Zb, Za Xq8.b0.eq_1]
     simp (maxSteps := 2000000) only [go_sem, w, w', w'', hge, hlt, hget, hD, hx1, hx2, hx1N, hx2N, w1, w2, hcall, hcn]
     exact this
   ·have hlt : ¬ ((2 * root + 1 + 1 : Nat) : Int) < (hi : Int) := by omega
    have := ZiU S hN hfN hD hp hlo hH (.inl rfl) hc (fun d hd hdh => by
     rcases hd with rfl | rfl
     ·exact irr _ hx1
     ·omega) dn (go _ (.inl rfl) hc)
    rw [Zb, Za Xq8.b0.eq_1]
    simp (maxSteps := 2000000) only [go_sem, w, w', w'', hge, hlt]
    exact this
  ·have hge : (hi : Int) ≤ ((2 * root + 1 : Nat) : Int) := by omega
   have := next D (Seg.refl _ _ _) (Zhc hH fun c hc hch => by omega)
   rw [Zb, Za Xq8.b0.eq_1]
   simp (maxSteps := 2000000) only [go_sem, w, w', hge, Za Xq8.c0.eq_1, Za Xq8.c1.eq_1, Xq8.k0]
   exact this

theorem Zfc (S : Srt σ o nl g fs cs r p) {N hi f lo : Nat} {D : List Int} {R : Zs} (hN : N < 1000000) (hfN : f + hi ≤ N) (hlo : lo < 1000000) (hD : D.length = N) (hp : ∀ x ∈ D, p x) (hH : HeapBut r D f lo hi lo)
  (next : ∀ D', Seg f (f + hi) D D' → Zhq r D' f lo hi → R (.tup []) (stI σ o nl D')) : Cw T false i_Xq8 [.ref o N 0 N 1, .int .i64 lo, .int .i64 hi, .int .i64 f] [] (stI σ o nl D) R := by
 rw [ZS T_Xq8 (by simp), Za Xq8.main.eq_1]
 simp (maxSteps := 2000000) only [go_sem]
 exact Zqo S hN hfN _ lo D (Nat.le_refl _) hD hp (Nat.le_refl _) hlo hH next

theorem Zqp (S : Srt σ o nl g fs cs r p) {N hi f : Nat} {R : Zs} (hN : N < 1000000) (hfN : f + hi ≤ N) : ∀ (n : Nat) (D : List Int), n ≤ hi → D.length = N → (∀ x ∈ D, p x) → Zhq r D f 0 n → Half r D f n hi →
  (∀ D', Seg f (f + hi) D D' → Zw r D' f (f + hi) → R (.tup []) (stI σ o nl D')) →
  Run T (Ret [] R) (.inLoop Xq9.b1 :: Xq9.k1) (mkE 56 [(0, .ref o N 0 N 1), (6, .int .i64 f), (7, .int .i64 0), (10, .int .i64 ((n : Int) - 1))]) (stI σ o nl D) := by
 intro n
 induction n with
 | zero =>
  intro D hn hD hp hH hh next
  have hlt : ¬ (0 : Int) ≤ 0 - 1 := by decide
  have := next D (Seg.refl _ _ _) (by have := hh.srt; rwa [Nat.add_zero] at this)
  rw [Zb, Za Xq9.b1.eq_1]
  simp (maxSteps := 2000000) only [go_sem, Int.natCast_zero, Int.ofNat_zero, hlt, Za Xq9.c0.eq_1, Za Xq9.c1.eq_1, Xq9.k0, Xq9.k1]
  exact this
 | succ n ih =>
  intro D hn hD hp hH hh next
  have e : ((n + 1 : Nat) : Int) - 1 = (n : Int) := by omega
  rw [e]
  have hlt : (0 : Int) ≤ (n : Int) := by omega
  have h1 : f < D.length := by omega
  have h2 : f + n < D.length := by omega
  have h1N : f < N := by omega
  have h2N : f + n < N := by omega
  have hk1 : f + 1 ≤ N := by omega
  have hk2 : f + n + 1 ≤ N := by omega
  have w1 := Zhp (a := f) (b := n) (by omega)
  have w2 : IntKind.i64.wrap ((n : Int) - 1) = (n : Int) - 1 := Zi (by omega) (by omega)
  have hget := ZH (nl := nl) (D := D) S.lt
  have hget2 := ZH (nl := nl) (D := D.set f D[f + n]) S.lt
  obtain ⟨g1, g2⟩ := Znu S.toOrd3 (show n < hi by omega) (by omega) hp hH hh
  rw [Zb, Za Xq9.b1.eq_1]
  simp (maxSteps := 2000000) only [go_sem, hlt, hget, hget2, hD, h1, h2, h1N, h2N, hk1, hk2, w1, Za4, List.length_set, List.length_map]
  rw [ZcD h1 h2]
  unfold Zp
  refine Zfc S hN (show f + n ≤ N by omega) (lo := 0) (by omega) (by rw [ZbS]; exact hD) (fun x hx => hp x ((ZbB h1 h2).mem_iff.1 hx)) g2 fun D' k1 k2 => ?_
  have := ih D' (by omega) (by rw [k1.len, ZbS]; exact hD) (fun x hx => hp x ((ZbB h1 h2).mem_iff.1 (k1.perm.mem_iff.1 hx))) k2 (Zpm g1 k1 (by omega))
   (fun D'' q1 q2 => next D'' ((Seg.swap (Nat.le_refl _) (by omega) (by omega) (by omega) (by omega)).trans ((k1.mono (Nat.le_refl _) (by omega)).trans q1)) q2)
  simp (maxSteps := 2000000) only [go_sem, w2]
  exact this

theorem Zqq (S : Srt σ o nl g fs cs r p) {N hi f : Nat} {Q : Zg} (hN : N < 1000000) (hfN : f + hi ≤ N) : ∀ (n : Nat) (D : List Int), n ≤ hi → D.length = N → (∀ x ∈ D, p x) → Zhq r D f n hi →
  (∀ D', Seg f (f + hi) D D' → Zhq r D' f 0 hi → Run T Q [.code Xq9.c1] (mkE 56 [(0, .ref o N 0 N 1), (6, .int .i64 f), (7, .int .i64 0), (8, .int .i64 hi)]) (stI σ o nl D')) →
  Run T Q (.inLoop Xq9.b0 :: Xq9.k0) (mkE 56 [(0, .ref o N 0 N 1), (6, .int .i64 f), (7, .int .i64 0), (8, .int .i64 hi), (9, .int .i64 ((n : Int) - 1))]) (stI σ o nl D) := by
 intro n
 induction n with
 | zero =>
  intro D hn hD hp hH next
  have hlt : ¬ (0 : Int) ≤ 0 - 1 := by decide
  have := next D (Seg.refl _ _ _) hH
  rw [Zb, Za Xq9.b0.eq_1]
  simp (maxSteps := 2000000) only [go_sem, Int.natCast_zero, Int.ofNat_zero, hlt, Xq9.k0]
  exact this
 | succ n ih =>
  intro D hn hD hp hH next
  have e : ((n + 1 : Nat) : Int) - 1 = (n : Int) := by omega
  rw [e]
  have hlt : (0 : Int) ≤ (n : Int) := by omega
  have w2 : IntKind.i64.wrap ((n : Int) - 1) = (n : Int) - 1 := Zi (by omega) (by omega)
  rw [Zb, Za Xq9.b0.eq_1]
  simp (maxSteps := 2000000) only [go_sem, hlt]
  unfold Zp
  refine Zfc S hN hfN (lo := n) (by omega) hD hp ⟨fun k c hk hne hkc hc => hH k c (by omega) hkc hc, fun q c hq hqc _ _ => by omega⟩ fun D' k1 k2 => ?_
  have := ih D' (by omega) (k1.len.trans hD) (fun x hx => hp x (k1.perm.mem_iff.1 hx)) k2 (fun D'' q1 q2 => next D'' (k1.trans q1) q2)
  simp (maxSteps := 2000000) only [go_sem, w2]
  exact this

theorem ZiV (S : Srt σ o nl g fs cs r p) {N a b : Nat} {D : List Int} {R : Zs} (hN : N < 1000000) (hab : a < b) (hbN : b ≤ N) (hD : D.length = N) (hp : ∀ x ∈ D, p x)
  (next : ∀ D', Seg a b D D' → Zw r D' a b → R (.tup []) (stI σ o nl D')) : Cw T false i_Xq9 [.ref o N 0 N 1, .int .i64 a, .int .i64 b] [] (stI σ o nl D) R := by
 rw [ZS T_Xq9 (by simp), Za Xq9.main.eq_1]
 have w1 := ZeE (a := b) (b := a) (by omega) (by omega)
 have w2 : IntKind.i64.wrap (((b - a : Nat) : Int) - 1) = ((b - a - 1 : Nat) : Int) := by rw [Zi (by omega) (by omega)]; omega
 have w3 : IntKind.i64.wrap (Int.tdiv ((b - a - 1 : Nat) : Int) 2) = (((b - a - 1) / 2 + 1 : Nat) : Int) - 1 := by
  have : Int.tdiv ((b - a - 1 : Nat) : Int) 2 = (((b - a - 1) / 2 : Nat) : Int) := rfl
  rw [this, Zi (by omega) (by omega)]; omega
 simp (maxSteps := 2000000) only [go_sem, w1, w2, w3, show ¬ ((2 : Int) = 0) by omega]
 have hf : a + (b - a) = b := by omega
 refine Zqq S hN (show a + (b - a) ≤ N by omega) ((b - a - 1) / 2 + 1) D (by omega) hD hp (fun k c hk hkc hc => by omega) fun D' k1 k2 => ?_
 rw [Za Xq9.c1.eq_1]
 have w4 : IntKind.i64.wrap (((b - a : Nat) : Int) - 1) = ((b - a : Nat) : Int) - 1 := Zi (by omega) (by omega)
 simp (maxSteps := 2000000) only [go_sem, w4]
 refine Zqp S hN (show a + (b - a) ≤ N by omega) (b - a) D' (Nat.le_refl _) (k1.len.trans hD) (fun x hx => hp x (k1.perm.mem_iff.1 hx)) k2 ⟨fun u v hu huv hv => by omega, fun u v hu hv hv' => by omega⟩ fun D'' q1 q2 => ?_
 rw [hf] at k1 q1 q2
 exact next D'' (k1.trans q1) q2
end
end Go.Abs
/- Walks of the library's sorting: a part turned round; a sort that gives up early. -/
set_option linter.unusedSimpArgs false
set_option linter.unusedVariables false
set_option maxRecDepth 100000
set_option maxHeartbeats 4000000
namespace Go.Abs
open Go
attribute [local go_sem_proc] Nat.reduceLT Nat.reduceEqDiff Nat.reduceLeDiff Nat.reduceAdd Nat.reduceSub Nat.reduceMul Int.reduceLT Int.reduceLE Int.reduceEq Int.reduceNeg
attribute [local go_sem_proc ↓] reduceIte

section
variable {σ : Sto} {o : Nat} {nl : Bool} {g : FuncId} {fs cs : List AVal} {r : Int → Int → Bool} {p : Int → Prop}

theorem ZkX (ho : o < σ.length) {N a b : Nat} {R : Zs} (hN : N < 1000000) (hbN : b ≤ N) : ∀ (m i j : Nat) (D : List Int), j - i ≤ m → D.length = N → a ≤ i → j < b →
  (∀ D', Seg a b D D' → R (.tup []) (stI σ o nl D')) →
  Run T (Ret [] R) (.inLoop Xq5.b0 :: Xq5.k0) (mkE 32 [(0, .ref o N 0 N 1), (6, .int .i64 i), (7, .int .i64 j)]) (stI σ o nl D) := by
 intro m
 induction m with
 | zero =>
  intro i j D hm hD hi hj next
  have hlt : ¬ (i : Int) < j := by omega
  have := next D (Seg.refl _ _ _)
  rw [Zb, Za Xq5.b0.eq_1]
  simp (maxSteps := 2000000) only [go_sem, hlt, Za Xq5.c0.eq_1, Xq5.k0]
  exact this
 | succ m ih =>
  intro i j D hm hD hi hj next
  by_cases hij : i < j
  ·have hlt : (i : Int) < j := by omega
   have h1 : i < D.length := by omega
   have h2 : j < D.length := by omega
   have h1N : i < N := by omega
   have h2N : j < N := by omega
   have hk1 : i + 1 ≤ N := by omega
   have hk2 : j + 1 ≤ N := by omega
   have hget := ZH (nl := nl) (D := D) ho
   have hget2 := ZH (nl := nl) (D := D.set i D[j]) ho
   have hwj : IntKind.i64.wrap ((j : Int) - 1) = ((j - 1 : Nat) : Int) := by rw [Zi (by omega) (by omega)]; omega
   have := ih (i + 1) (j - 1) (sw D i j) (by omega) (by rw [ZbS]; exact hD) (by omega) (by omega) fun D' h => next D' ((Seg.swap hi (by omega) (by omega) hj (by omega)).trans h)
   rw [Zb, Za Xq5.b0.eq_1]
   simp (maxSteps := 2000000) only [go_sem, hlt, hget, hget2, hD, h1, h2, h1N, h2N, hk1, hk2, Za4, List.length_set, List.length_map, hwj, Zj (show i < 9223372036854775807 by omega)]
   rw [ZcD h1 h2]
   exact this
  ·have hlt : ¬ (i : Int) < j := by omega
   have := next D (Seg.refl _ _ _)
   rw [Zb, Za Xq5.b0.eq_1]
   simp (maxSteps := 2000000) only [go_sem, hlt, Za Xq5.c0.eq_1, Xq5.k0]
   exact this
theorem Zj3 (ho : o < σ.length) {N a b : Nat} {D : List Int} {R : Zs} (hN : N < 1000000) (hab : a < b) (hbN : b ≤ N) (hD : D.length = N)
  (next : ∀ D', Seg a b D D' → R (.tup []) (stI σ o nl D')) : Cw T false i_Xq5 [.ref o N 0 N 1, .int .i64 a, .int .i64 b] [] (stI σ o nl D) R := by
 rw [ZS T_Xq5 (by simp), Za Xq5.main.eq_1]
 have hwb : IntKind.i64.wrap ((b : Int) - 1) = ((b - 1 : Nat) : Int) := by rw [Zi (by omega) (by omega)]; omega
 simp (maxSteps := 2000000) only [go_sem, hwb]
 exact ZkX ho hN hbN _ a (b - 1) D (Nat.le_refl _) hD (Nat.le_refl _) (by omega) next

theorem Zj4 (hO : Ord3 r p) {D : List Int} {a i : Nat} (hi : i < D.length) (hp : ∀ x ∈ D, p x) (h : Zw r D a i) (hr : a < i → r (gd D i) (gd D (i - 1)) = false) : Zw r D a (i + 1) := by
 intro u v hu huv hv
 by_cases e : v = i
 ·subst e
  have hr := hr (by omega)
  by_cases e2 : u = v - 1
  ·rw [e2]; exact hr
  ·exact hO.trans _ _ _ (hp _ (Zae hi)) (hp _ (Zae (by omega))) (hp _ (Zae (by omega))) hr (h u (v - 1) hu (by omega) (by omega))
 ·exact h u v hu huv (by omega)
theorem ZkY {D D' : List Int} {a b i : Nat} (h : Zw r D a i) (hs : Seg i b D D') : Zw r D' a i := fun u v hu huv hv => by
 rw [hs.out u (by omega), hs.out v (by omega)]; exact h u v hu huv hv

theorem Zsa (S : Srt σ o nl g fs cs r p) {N a b i n : Nat} {Q : Zg} {K : List Item} (hN : N < 1000000) (hbN : b ≤ N) : ∀ (m j : Nat) (D : List Int), b - j ≤ m → D.length = N → (∀ x ∈ D, p x) → i < j → j ≤ b →
  (∀ D', Seg i b D D' → Run T Q K (mkE 133 [(0, .ref o N 0 N 1), (1, .int .i64 a), (2, .int .i64 b), (7, .int .i64 i), (8, .int .i64 n)]) (stI σ o nl D')) →
  Run T Q (.inLoop Xq0.b3 :: .inBlock 6 :: .code Xq0.c3 :: .code (.ghost (.kill [98])) :: K) (mkE 133 [(0, .ref o N 0 N 1), (1, .int .i64 a), (2, .int .i64 b), (7, .int .i64 i), (8, .int .i64 n), (10, .int .i64 j)]) (stI σ o nl D) := by
 intro m
 induction m with
 | zero =>
  intro j D hm hD hp hij hjb next
  have hlt : ¬ (j : Int) < b := by omega
  have := next D (Seg.refl _ _ _)
  rw [Zb, Za Xq0.b3.eq_1]
  simp (maxSteps := 2000000) only [go_sem, hlt, Za Xq0.c3.eq_1]
  exact this
 | succ m ih =>
  intro j D hm hD hp hij hjb next
  by_cases hjb' : j < b
  ·have hlt : (j : Int) < b := by omega
   obtain ⟨j, rfl⟩ : ∃ j', j = j' + 1 := ⟨j - 1, by omega⟩
   have h1 : j + 1 < D.length := by omega
   have h2 : j < D.length := by omega
   have h1N : j + 1 < N := by omega
   have h2N : j < N := by omega
   have hk1 : j + 1 + 1 ≤ N := by omega
   have hk2 : j + 1 ≤ N := by omega
   have hw := Zhb (a := j) (by omega)
   have hget := ZH (nl := nl) (D := D) S.lt
   have hget2 := ZH (nl := nl) (D := D.set (j + 1) D[j]) S.lt
   obtain ⟨c, hcr, hcall⟩ := S.at D[j + 1] D[j] D (hp _ (List.getElem_mem h1)) (hp _ (List.getElem_mem h2))
   cases hr : r D[j + 1] D[j]
   ·have hcn : ¬ c < 0 := by simpa [hr] using hcr
    have := next D (Seg.refl _ _ _)
    rw [Zb, Za Xq0.b3.eq_1]
    simp (maxSteps := 2000000) only [go_sem, hlt, hget, hD, h1, h2, h1N, h2N, hw, hcall, hcn, Za Xq0.c3.eq_1]
    exact this
   ·have hcn : c < 0 := by simpa [hr] using hcr
    have := ih (j + 1 + 1) (sw D (j + 1) j) (by omega) (by rw [ZbS]; exact hD) (fun x hx => hp x ((ZbB h1 h2).mem_iff.1 hx)) (by omega) (by omega) fun D' h => next D' ((Seg.swap (by omega) (by omega) (by omega) (by omega) (by omega)).trans h)
    rw [Zb, Za Xq0.b3.eq_1]
    simp (maxSteps := 2000000) only [go_sem, hlt, hget, hget2, hD, h1, h2, h1N, h2N, hk1, hk2, hw, hcall, hcn, Za4, List.length_set, List.length_map, Zj (show j + 1 < 9223372036854775807 by omega)]
    rw [ZcD h1 h2]
    exact this
  ·have hlt : ¬ (j : Int) < b := by omega
   have := next D (Seg.refl _ _ _)
   rw [Zb, Za Xq0.b3.eq_1]
   simp (maxSteps := 2000000) only [go_sem, hlt, Za Xq0.c3.eq_1]
   exact this

theorem Zsb (S : Srt σ o nl g fs cs r p) {N a b i n : Nat} {Q : Zg} {K : List Item} (hN : N < 1000000) (hib : i < b) (hbN : b ≤ N) : ∀ (j : Nat) (D : List Int), D.length = N → (∀ x ∈ D, p x) → a ≤ j → j + 1 ≤ i → Ins r D a (i - 1) j →
  (0 < a → ∀ k, a ≤ k → k < b → r (gd D k) (gd D (a - 1)) = false) →
  (∀ D', Seg a i D D' → Zw r D' a i → Run T Q K (mkE 133 [(0, .ref o N 0 N 1), (1, .int .i64 a), (2, .int .i64 b), (7, .int .i64 i), (8, .int .i64 n)]) (stI σ o nl D')) →
  Run T Q (.inLoop Xq0.b2 :: .inBlock 4 :: .code (.ghost (.kill [9, 65, 78])) :: .code (.ghost (.kill [61])) :: K) (mkE 133 [(0, .ref o N 0 N 1), (1, .int .i64 a), (2, .int .i64 b), (7, .int .i64 i), (8, .int .i64 n), (9, .int .i64 j)]) (stI σ o nl D) := by
 intro j
 induction j with
 | zero =>
  intro D hD hp ha hi hI hl next
  have : a = 0 := by omega
  subst this
  have hs := Zff S.toOrd3 (by omega) (by omega) hI hp (.inl (Nat.le_refl _))
  rw [Nat.sub_add_cancel hi] at hs
  have := next D (Seg.refl _ _ _) hs
  have hlt : ¬ (1 : Int) ≤ 0 := by decide
  rw [Zb, Za Xq0.b2.eq_1]
  simp (maxSteps := 2000000) only [go_sem, Int.natCast_zero, Int.ofNat_zero, hlt]
  exact this
 | succ j ih =>
  intro D hD hp ha hi hI hl next
  have hlt : (1 : Int) ≤ ((j + 1 : Nat) : Int) := by omega
  have h1 : j + 1 < D.length := by omega
  have h2 : j < D.length := by omega
  have h1N : j + 1 < N := by omega
  have h2N : j < N := by omega
  have hk1 : j + 1 + 1 ≤ N := by omega
  have hk2 : j + 1 ≤ N := by omega
  have hw := Zhb (a := j) (by omega)
  have hget := ZH (nl := nl) (D := D) S.lt
  have hget2 := ZH (nl := nl) (D := D.set (j + 1) D[j]) S.lt
  obtain ⟨c, hcr, hcall⟩ := S.at D[j + 1] D[j] D (hp _ (List.getElem_mem h1)) (hp _ (List.getElem_mem h2))
  cases hr : r D[j + 1] D[j]
  ·have hcn : ¬ c < 0 := by simpa [hr] using hcr
   have hs := Zff S.toOrd3 (by omega) (by omega) hI hp (.inr (by rw [Nat.add_sub_cancel, Zy h1, Zy h2]; exact hr))
   rw [Nat.sub_add_cancel (by omega)] at hs
   have := next D (Seg.refl _ _ _) hs
   rw [Zb, Za Xq0.b2.eq_1]
   simp (maxSteps := 2000000) only [go_sem, hlt, hget, hD, h1, h2, h1N, h2N, hw, hcall, hcn]
   exact this
  ·have hcn : c < 0 := by simpa [hr] using hcr
   have haj : a ≤ j := by
    by_cases e : a = j + 1
    ·exfalso
     have := hl (by omega) a (Nat.le_refl _) (by omega)
     rw [e, Nat.add_sub_cancel, Zy h1, Zy h2, hr] at this
     cases this
    ·omega
   have := ih (sw D (j + 1) j) (by rw [ZbS]; exact hD) (fun x hx => hp x ((ZbB h1 h2).mem_iff.1 hx)) haj (by omega) (Zj5 S.toOrd3 (by omega) haj (by omega) hI hp (by rw [Zy h1, Zy h2]; exact hr))
    (fun h0 => by
     have hsg : Seg a b D (sw D (j + 1) j) := Seg.swap (by omega) (by omega) (by omega) (by omega) (by omega)
     rw [hsg.out (a - 1) (by omega)]
     exact hsg.seg (fun x => r x (gd D (a - 1)) = false) (hl h0))
    fun D' h h' => next D' ((Seg.swap (by omega) (by omega) (by omega) (by omega) (by omega)).trans h) h'
   rw [Zb, Za Xq0.b2.eq_1]
   simp (maxSteps := 2000000) only [go_sem, hlt, hget, hget2, hD, h1, h2, h1N, h2N, hk1, hk2, hw, hcall, hcn, Za4, List.length_set, List.length_map]
   rw [ZcD h1 h2]
   exact this

theorem Zsc (S : Srt σ o nl g fs cs r p) {N a b n i0 : Nat} {Q : Zg} {K : List Item} {D : List Int} (hN : N < 1000000) (hbN : b ≤ N) (hD : D.length = N) (hp : ∀ x ∈ D, p x)
  (next : ∀ i, i0 ≤ i → i ≤ b → Zw r D a i → (i < b → r (gd D i) (gd D (i - 1)) = true) → Run T Q K (mkE 133 [(0, .ref o N 0 N 1), (1, .int .i64 a), (2, .int .i64 b), (7, .int .i64 i), (8, .int .i64 n)]) (stI σ o nl D)) : ∀ (m i : Nat), b - i ≤ m → i0 ≤ i → a < i → i ≤ b → Zw r D a i →
  Run T Q (.inLoop Xq0.b1 :: .inBlock 2 :: .code (.ghost (.kill [32])) :: K) (mkE 133 [(0, .ref o N 0 N 1), (1, .int .i64 a), (2, .int .i64 b), (7, .int .i64 i), (8, .int .i64 n)]) (stI σ o nl D) := by
 intro m
 induction m with
 | zero =>
  intro i hm h0 ha hib hs
  have hlt : ¬ (i : Int) < b := by omega
  have := next i h0 hib hs (fun h => by omega)
  rw [Zb, Za Xq0.b1.eq_1]
  simp (maxSteps := 2000000) only [go_sem, hlt]
  exact this
 | succ m ih =>
  intro i hm h0 ha hib hs
  by_cases hlt' : i < b
  ·have hlt : (i : Int) < b := by omega
   obtain ⟨i, rfl⟩ : ∃ i', i = i' + 1 := ⟨i - 1, by omega⟩
   have h1 : i + 1 < D.length := by omega
   have h2 : i < D.length := by omega
   have h1N : i + 1 < N := by omega
   have h2N : i < N := by omega
   have hw := Zhb (a := i) (by omega)
   have hget := ZH (nl := nl) (D := D) S.lt
   obtain ⟨c, hcr, hcall⟩ := S.at D[i + 1] D[i] D (hp _ (List.getElem_mem h1)) (hp _ (List.getElem_mem h2))
   cases hr : r D[i + 1] D[i]
   ·have hcn : ¬ c < 0 := by simpa [hr] using hcr
    have := ih (i + 1 + 1) (by omega) (by omega) (by omega) (by omega) (Zj4 S.toOrd3 h1 hp hs fun _ => by rw [Nat.add_sub_cancel, Zy h1, Zy h2]; exact hr)
    rw [Zb, Za Xq0.b1.eq_1]
    simp (maxSteps := 2000000) only [go_sem, hlt, hget, hD, h1, h2, h1N, h2N, hw, hcall, hcn, Zj (show i + 1 < 9223372036854775807 by omega)]
    exact this
   ·have hcn : c < 0 := by simpa [hr] using hcr
    have := next (i + 1) h0 hib hs (fun h => by rw [Nat.add_sub_cancel, Zy h1, Zy h2]; exact hr)
    rw [Zb, Za Xq0.b1.eq_1]
    simp (maxSteps := 2000000) only [go_sem, hlt, hget, hD, h1, h2, h1N, h2N, hw, hcall, hcn]
    exact this
  ·have hlt : ¬ (i : Int) < b := by omega
   have := next i h0 hib hs (fun h => by omega)
   rw [Zb, Za Xq0.b1.eq_1]
   simp (maxSteps := 2000000) only [go_sem, hlt]
   exact this

theorem Zsd (S : Srt σ o nl g fs cs r p) {N a b : Nat} {R : Zs} (hN : N < 1000000) (hab : a < b) (hbN : b ≤ N) : ∀ (m n i : Nat) (D : List Int), 5 - n = m → n ≤ 5 → D.length = N → (∀ x ∈ D, p x) → a < i → i ≤ b → Zw r D a i → (0 < a → ∀ k, a ≤ k → k < b → r (gd D k) (gd D (a - 1)) = false) →
  (∀ (D' : List Int) (x : Bool), Seg a b D D' → (x = true → Zw r D' a b) → R (.bool x) (stI σ o nl D')) →
  Run T (Ret [.tmp 6] R) (.inLoop Xq0.b0 :: Xq0.k0) (mkE 133 [(0, .ref o N 0 N 1), (1, .int .i64 a), (2, .int .i64 b), (7, .int .i64 i), (8, .int .i64 n)]) (stI σ o nl D) := by
 intro m
 induction m with
 | zero =>
  intro n i D hm hn hD hp ha hib hs hl next
  have hlt : ¬ (n : Int) < 5 := by omega
  have := next D false (Seg.refl _ _ _) (fun h => by cases h)
  rw [Zb, Za Xq0.b0.eq_1]
  simp (maxSteps := 2000000) only [go_sem, hlt, Za Xq0.c0.eq_1, Za Xq0.c1.eq_1, Za Xq0.c2.eq_1, Za Xq0.c3.eq_1, Za Xq0.c4.eq_1, Za Xq0.c5.eq_1, Xq0.k0, Xq0.k1, Xq0.k2, Xq0.k3]
  exact this
 | succ m ih =>
  intro n i D hm hn hD hp ha hib hs hl next
  have hlt : (n : Int) < 5 := by omega
  rw [Zb, Za Xq0.b0.eq_1]
  simp (maxSteps := 2000000) only [go_sem, hlt]
  refine Zsc S (i0 := i) hN hbN hD hp (fun i2 hi2 hib2 hs2 hr2 => ?_) _ i (Nat.le_refl _) (Nat.le_refl _) ha hib hs
  rw [Za Xq0.c5.eq_1]
  by_cases e1 : i2 = b
  ·have e1' : (i2 : Int) = b := by omega
   subst e1
   have := next D true (Seg.refl _ _ _) (fun _ => hs2)
   simp (maxSteps := 2000000) only [go_sem, eq_self_iff_true]
   exact this
  ·have e1' : ¬ (i2 : Int) = b := by omega
   have w1 := ZeE (a := b) (b := a) (by omega) (by omega)
   by_cases e2 : b - a < 50
   ·have e2' : ((b - a : Nat) : Int) < 50 := by omega
    have := next D false (Seg.refl _ _ _) (fun h => by cases h)
    simp (maxSteps := 2000000) only [go_sem, e1', w1, e2']
    exact this
   ·have e2' : ¬ ((b - a : Nat) : Int) < 50 := by omega
    obtain ⟨i2, rfl⟩ : ∃ i', i2 = i' + 1 := ⟨i2 - 1, by omega⟩
    have h1 : i2 + 1 < D.length := by omega
    have h2 : i2 < D.length := by omega
    have h1N : i2 + 1 < N := by omega
    have h2N : i2 < N := by omega
    have hk1 : i2 + 1 + 1 ≤ N := by omega
    have hk2 : i2 + 1 ≤ N := by omega
    have hw := Zhb (a := i2) (by omega)
    have hget := ZH (nl := nl) (D := D) S.lt
    have hget2 := ZH (nl := nl) (D := D.set (i2 + 1) D[i2]) S.lt
    have hr2 := hr2 (by omega)
    rw [Nat.add_sub_cancel] at hr2
    have hs1 : Seg a b D (sw D (i2 + 1) i2) := Seg.swap (by omega) (by omega) (by omega) (by omega) (by omega)
    have hD1 : (sw D (i2 + 1) i2).length = N := by rw [ZbS]; exact hD
    have hp1 : ∀ x ∈ sw D (i2 + 1) i2, p x := fun x hx => hp x ((ZbB h1 h2).mem_iff.1 hx)
    have hl1 : 0 < a → ∀ k, a ≤ k → k < b → r (gd (sw D (i2 + 1) i2) k) (gd (sw D (i2 + 1) i2) (a - 1)) = false := fun h0 => by
     rw [hs1.out (a - 1) (by omega)]
     exact hs1.seg (fun x => r x (gd D (a - 1)) = false) (hl h0)
    have hI : Ins r (sw D (i2 + 1) i2) a i2 i2 := fun u v hu huv hv hne => by
     rw [ZcC (by omega) (by omega), ZcC (by omega) (by omega), if_neg (by omega), if_neg (by omega), if_neg (by omega), if_neg (by omega)]
     exact hs2 u v hu huv (by omega)
    have wia := ZeE (a := i2 + 1) (b := a) (by omega) (by omega)
    simp (maxSteps := 2000000) only [go_sem, e1', w1, e2', hget, hget2, hD, h1, h2, h1N, h2N, hk1, hk2, hw, wia, Za4, List.length_set, List.length_map]
    rw [ZcD h1 h2]
    generalize sw D (i2 + 1) i2 = D1 at hs1 hD1 hp1 hl1 hI ⊢
    have fin : ∀ D2, Seg a b D1 D2 → Zw r D2 a (i2 + 1) → Run T (Ret [.tmp 6] R) (.code Xq0.c4 :: .inBlock 1 :: .code Xq0.c2 :: .inLoop Xq0.b0 :: Xq0.k0) (mkE 133 [(0, .ref o N 0 N 1), (1, .int .i64 a), (2, .int .i64 b), (7, .int .i64 ((i2 + 1 : Nat) : Int)), (8, .int .i64 n)]) (stI σ o nl D2) := by
     intro D2 q1 q2
     have back : ∀ D3, Seg (i2 + 1) b D2 D3 → Run T (Ret [.tmp 6] R) (.inBlock 1 :: .code Xq0.c2 :: .inLoop Xq0.b0 :: Xq0.k0) (mkE 133 [(0, .ref o N 0 N 1), (1, .int .i64 a), (2, .int .i64 b), (7, .int .i64 ((i2 + 1 : Nat) : Int)), (8, .int .i64 n)]) (stI σ o nl D3) := by
      intro D3 q3
      have hall : Seg a b D D3 := (hs1.trans q1).trans (q3.mono (by omega) (Nat.le_refl _))
      have := ih (n + 1) (i2 + 1) D3 (by omega) (by omega) (hall.len.trans hD) (fun x hx => hp x (hall.perm.mem_iff.1 hx)) (by omega) hib2 (ZkY q2 q3)
       (fun h0 => by
        rw [hall.out (a - 1) (by omega)]
        exact hall.seg (fun x => r x (gd D (a - 1)) = false) (hl h0))
       (fun D' x k1 k2 => next D' x (hall.trans k1) k2)
      simp (maxSteps := 2000000) only [go_sem, Za Xq0.c2.eq_1, Zj (show n < 9223372036854775807 by omega)]
      exact this
     have wbi := ZeE (a := b) (b := i2 + 1) (by omega) (by omega)
     have hall : Seg a b D D2 := hs1.trans q1
     rw [Za Xq0.c4.eq_1]
     by_cases e4 : 2 ≤ b - (i2 + 1)
     ·have e4' : (2 : Int) ≤ ((b - (i2 + 1) : Nat) : Int) := by omega
      simp (maxSteps := 2000000) only [go_sem, wbi, e4', Zj (show i2 + 1 < 9223372036854775807 by omega)]
      exact Zsa S hN hbN _ (i2 + 1 + 1) D2 (Nat.le_refl _) (hall.len.trans hD) (fun x hx => hp x (hall.perm.mem_iff.1 hx)) (by omega) (by omega) back
     ·have e4' : ¬ (2 : Int) ≤ ((b - (i2 + 1) : Nat) : Int) := by omega
      have := back D2 (Seg.refl _ _ _)
      simp (maxSteps := 2000000) only [go_sem, wbi, e4']
      simp (maxSteps := 2000000) only [go_sem] at this
      exact this
    by_cases e3 : 2 ≤ i2 + 1 - a
    ·have e3' : (2 : Int) ≤ ((i2 + 1 - a : Nat) : Int) := by omega
     simp (maxSteps := 2000000) only [go_sem, e3', hw]
     refine Zsb S hN (i := i2 + 1) (by omega) hbN i2 D1 hD1 hp1 (by omega) (Nat.le_refl _) hI hl1 fun D2 q1 q2 => ?_
     exact fin D2 (q1.mono (Nat.le_refl _) (by omega)) q2
    ·have e3' : ¬ (2 : Int) ≤ ((i2 + 1 - a : Nat) : Int) := by omega
     simp (maxSteps := 2000000) only [go_sem, e3']
     exact fin D1 (Seg.refl _ _ _) (fun u v hu huv hv => by omega)

theorem ZcI (S : Srt σ o nl g fs cs r p) {N a b : Nat} {D : List Int} {R : Zs} (hN : N < 1000000) (hab : a < b) (hbN : b ≤ N) (hD : D.length = N) (hp : ∀ x ∈ D, p x) (hl : 0 < a → ∀ k, a ≤ k → k < b → r (gd D k) (gd D (a - 1)) = false)
  (next : ∀ (D' : List Int) (x : Bool), Seg a b D D' → (x = true → Zw r D' a b) → R (.bool x) (stI σ o nl D')) : Cw T false i_Xq0 [.ref o N 0 N 1, .int .i64 a, .int .i64 b] [] (stI σ o nl D) R := by
 rw [ZS T_Xq0 (by simp), Za Xq0.main.eq_1]
 simp (maxSteps := 2000000) only [go_sem, Zj (show a < 9223372036854775807 by omega)]
 exact Zsd S hN hab hbN 5 0 (a + 1) D rfl (by omega) hD hp (by omega) hab (fun u v hu huv hv => by omega) hl next
end
end Go.Abs
/- Walks of the library's sorting: the choice of a pivot; patterns broken. -/
set_option linter.unusedSimpArgs false
set_option linter.unusedVariables false
set_option maxRecDepth 100000
set_option maxHeartbeats 4000000
namespace Go.Abs
open Go
attribute [local go_sem_proc] Nat.reduceLT Nat.reduceEqDiff Nat.reduceLeDiff Nat.reduceAdd Nat.reduceSub Nat.reduceMul Int.reduceLT Int.reduceLE Int.reduceEq Int.reduceNeg
attribute [local go_sem_proc ↓] reduceIte

section
variable {σ : Sto} {o : Nat} {nl : Bool} {g : FuncId} {fs cs : List AVal} {r : Int → Int → Bool} {p : Int → Prop}

@[go_sem] theorem Zr9 {o g f : Nat} {σ : Sto} : Zkg (.ptr o g f) σ = some (.ptr o g f, σ) := rfl
abbrev boxI (n : Int) : AObj := .cells false [.int .i64 n]
theorem Zdl {D : List Int} {b : AObj} (h : o < σ.length) : (stI (σ ++ [b]) o nl D)[σ.length]? = some b := by
 rw [List.getElem?_set_ne (by omega)]; simp
theorem ZiT {D : List Int} {b b' : AObj} (h : o < σ.length) : (stI (σ ++ [b]) o nl D).set σ.length b' = stI (σ ++ [b']) o nl D := by
 unfold stI
 rw [List.set_comm _ _ (by omega), List.set_append_right _ _ (Nat.le_refl _)]; simp
theorem ZfF {D : List Int} {b : AObj} (h : o < σ.length) : stI σ o nl D ++ [b] = stI (σ ++ [b]) o nl D := by
 unfold stI
 rw [List.set_append_left _ _ h]
theorem ZlC {D : List Int} : (stI σ o nl D).length = σ.length := List.length_set ..

theorem ZeD (S : Srt σ o nl g fs cs r p) {N a b : Nat} {n : Int} {D : List Int} {R : Zs} (ha : a < N) (hb : b < N) (hD : D.length = N) (hp : ∀ x ∈ D, p x)
  (next : ∀ (n' : Int) (x y : Nat), (x = a ∧ y = b ∨ x = b ∧ y = a) → R (.tup [.int .i64 x, .int .i64 y]) (stI (σ ++ [boxI n']) o nl D)) : Cw T false i_Xq12 [.ref o N 0 N 1, .int .i64 a, .int .i64 b, .ptr σ.length 1 0] [] (stI (σ ++ [boxI n]) o nl D) R := by
 rw [ZS T_Xq12 (by simp), Za Xq12.main.eq_1]
 have h1 : a < D.length := by omega
 have h2 : b < D.length := by omega
 have hget := ZH (nl := nl) (D := D) (S.app [boxI n]).lt
 have hb1 := Zdl (nl := nl) (D := D) (b := boxI n) S.lt
 obtain ⟨c, hcr, hcall⟩ := (S.app [boxI n]).at D[b] D[a] D (hp _ (List.getElem_mem h2)) (hp _ (List.getElem_mem h1))
 cases hr : r D[b] D[a]
 ·have hcn : ¬ c < 0 := by simpa [hr] using hcr
  have := next n a b (.inl ⟨rfl, rfl⟩)
  simp (maxSteps := 2000000) only [go_sem, hget, hD, h1, h2, ha, hb, hcall, hcn]
  exact this
 ·have hcn : c < 0 := by simpa [hr] using hcr
  have := next (IntKind.i64.wrap (n + 1)) b a (.inr ⟨rfl, rfl⟩)
  simp (maxSteps := 2000000) only [go_sem, hget, hb1, hD, h1, h2, ha, hb, hcall, hcn, ZiT S.lt]
  exact this

theorem Zha (S : Srt σ o nl g fs cs r p) {N a b c : Nat} {n : Int} {D : List Int} {R : Zs} (ha : a < N) (hb : b < N) (hc : c < N) (hD : D.length = N) (hp : ∀ x ∈ D, p x)
  (next : ∀ (n' : Int) (x : Nat), (x = a ∨ x = b ∨ x = c) → R (.int .i64 x) (stI (σ ++ [boxI n']) o nl D)) : Cw T false i_Xq13 [.ref o N 0 N 1, .int .i64 a, .int .i64 b, .int .i64 c, .ptr σ.length 1 0] [] (stI (σ ++ [boxI n]) o nl D) R := by
 rw [ZS T_Xq13 (by simp), Za Xq13.main.eq_1]
 simp (maxSteps := 2000000) only [go_sem]
 unfold Zp
 refine ZeD S ha hb hD hp fun n1 x1 y1 h1 => ?_
 have hx1 : x1 < N := by omega
 have hy1 : y1 < N := by omega
 simp (maxSteps := 2000000) only [go_sem]
 unfold Zp
 refine ZeD S hy1 hc hD hp fun n2 x2 y2 h2 => ?_
 have hx2 : x2 < N := by omega
 simp (maxSteps := 2000000) only [go_sem]
 unfold Zp
 refine ZeD S hx1 hx2 hD hp fun n3 x3 y3 h3 => ?_
 have := next n3 y3 (by omega)
 simp (maxSteps := 2000000) only [go_sem]
 exact this

theorem Zbk (S : Srt σ o nl g fs cs r p) {N a : Nat} {n : Int} {D : List Int} {R : Zs} (h1 : 1 ≤ a) (ha : a + 1 < N) (hN : N < 1000000) (hD : D.length = N) (hp : ∀ x ∈ D, p x)
  (next : ∀ (n' : Int) (x : Nat), a ≤ x + 1 → x ≤ a + 1 → R (.int .i64 x) (stI (σ ++ [boxI n']) o nl D)) : Cw T false i_Xq1 [.ref o N 0 N 1, .int .i64 a, .ptr σ.length 1 0] [] (stI (σ ++ [boxI n]) o nl D) R := by
 rw [ZS T_Xq1 (by simp), Za Xq1.main.eq_1]
 have w : IntKind.i64.wrap ((a : Int) - 1) = ((a - 1 : Nat) : Int) := by rw [Zi (by omega) (by omega)]; omega
 simp (maxSteps := 2000000) only [go_sem, w, Zj (show a < 9223372036854775807 by omega)]
 unfold Zp
 refine Zha S (by omega) (by omega) ha hD hp fun n' x hx => ?_
 have := next n' x (by omega) (by omega)
 simp (maxSteps := 2000000) only [go_sem]
 exact this

theorem Zf4 (S : Srt σ o nl g fs cs r p) {N a b : Nat} {D : List Int} {R : Zs} (hN : N < 1000000) (hab : a + 12 < b) (hbN : b ≤ N) (hD : D.length = N) (hp : ∀ x ∈ D, p x)
  (next : ∀ (n h : Int) (x : Nat), a ≤ x → x < b → R (.tup [.int .i64 x, .int .i64 h]) (stI (σ ++ [boxI n]) o nl D)) : Cw T false i_Xq6 [.ref o N 0 N 1, .int .i64 a, .int .i64 b] [] (stI σ o nl D) R := by
 rw [ZS T_Xq6 (by simp), Za Xq6.main.eq_1]
 have w1 := ZeE (a := b) (b := a) (by omega) (by omega)
 have w2 : IntKind.i64.wrap (Int.tdiv ((b - a : Nat) : Int) 4) = (((b - a) / 4 : Nat) : Int) := by
  have : Int.tdiv ((b - a : Nat) : Int) 4 = (((b - a) / 4 : Nat) : Int) := rfl
  rw [this, Zi (by omega) (by omega)]
 obtain ⟨q, hq⟩ : ∃ q, (b - a) / 4 = q := ⟨_, rfl⟩
 rw [hq] at w2
 have hq4 : q * 4 ≤ b - a := by omega
 have hq1 : 3 ≤ q := by omega
 have w3 : IntKind.i64.wrap ((q : Int) * 1) = (q : Int) := by rw [Zi (by omega) (by omega)]; omega
 have w4 : IntKind.i64.wrap ((q : Int) * 2) = ((q * 2 : Nat) : Int) := by rw [Zi (by omega) (by omega)]; omega
 have w5 : IntKind.i64.wrap ((q : Int) * 3) = ((q * 3 : Nat) : Int) := by rw [Zi (by omega) (by omega)]; omega
 have w6 := Zhp (a := a) (b := q) (by omega)
 have w7 := Zhp (a := a) (b := q * 2) (by omega)
 have w8 := Zhp (a := a) (b := q * 3) (by omega)
 have e1 : (8 : Int) ≤ ((b - a : Nat) : Int) := by omega
 have hlen := ZlC (σ := σ) (o := o) (nl := nl) (D := D)
 have fin : ∀ (n : Int) (x : Nat), a ≤ x → x < b → Run T (Ret [.tmp 6, .tmp 7] R) [.code Xq6.c0] (mkE 57 [(9, .ptr σ.length 1 0), (11, .int .i64 x)]) (stI (σ ++ [boxI n]) o nl D) := by
  intro n x hx hxb
  have hb1 := Zdl (nl := nl) (D := D) (b := boxI n) S.lt
  have k0 := next n 1 x hx hxb
  have k1 := next n 2 x hx hxb
  have k2 := next n 0 x hx hxb
  rw [Za Xq6.c0.eq_1]
  by_cases h0 : n = 0
  ·subst h0
   simp (maxSteps := 2000000) only [go_sem, hb1]
   exact k0
  ·by_cases h12 : n = 12
   ·subst h12
    simp (maxSteps := 2000000) only [go_sem, hb1]
    exact k1
   ·simp (maxSteps := 2000000) only [go_sem, hb1, h0, h12]
    exact k2
 have med : ∀ (n : Int) (i j k : Nat), a ≤ i → i < b → a ≤ j → j < b → a ≤ k → k < b → Run T (Ret [.tmp 6, .tmp 7] R) [.code Xq6.c2, .code Xq6.c1, .code Xq6.c0] (mkE 57 [(0, .ref o N 0 N 1), (9, .ptr σ.length 1 0), (10, .int .i64 i), (11, .int .i64 j), (12, .int .i64 k)]) (stI (σ ++ [boxI n]) o nl D) := by
  intro n i j k hi hi' hj hj' hk hk'
  rw [Za Xq6.c2.eq_1]
  simp (maxSteps := 2000000) only [go_sem]
  unfold Zp
  refine Zha S (by omega) (by omega) (by omega) hD hp fun n' x hx => ?_
  have := fin n' x (by omega) (by omega)
  simp (maxSteps := 2000000) only [go_sem, Za Xq6.c1.eq_1]
  exact this
 by_cases e2 : 50 ≤ b - a
 ·have e2' : (50 : Int) ≤ ((b - a : Nat) : Int) := by omega
  simp (maxSteps := 2000000) only [go_sem, w1, w2, w3, w4, w5, w6, w7, w8, e1, e2', hlen, ZfF S.lt, show ¬ ((4 : Int) = 0) by omega]
  unfold Zp
  refine Zbk S (by omega) (by omega) hN hD hp fun n1 x1 h1 h1' => ?_
  simp (maxSteps := 2000000) only [go_sem]
  unfold Zp
  refine Zbk S (by omega) (by omega) hN hD hp fun n2 x2 h2 h2' => ?_
  simp (maxSteps := 2000000) only [go_sem]
  unfold Zp
  refine Zbk S (by omega) (by omega) hN hD hp fun n3 x3 h3 h3' => ?_
  have := med n3 x1 x2 x3 (by omega) (by omega) (by omega) (by omega) (by omega) (by omega)
  simp (maxSteps := 2000000) only [go_sem]
  exact this
 ·have e2' : ¬ (50 : Int) ≤ ((b - a : Nat) : Int) := by omega
  have := med 0 (a + q) (a + q * 2) (a + q * 3) (by omega) (by omega) (by omega) (by omega) (by omega) (by omega)
  simp (maxSteps := 2000000) only [go_sem, w1, w2, w3, w4, w5, w6, w7, w8, e1, e2', hlen, ZfF S.lt, show ¬ ((4 : Int) = 0) by omega]
  exact this
end
end Go.Abs
/- Walks of the library's sorting: patterns broken. -/
set_option linter.unusedSimpArgs false
set_option linter.unusedVariables false
set_option maxRecDepth 100000
set_option maxHeartbeats 4000000
namespace Go.Abs
open Go
attribute [local go_sem_proc] Nat.reduceLT Nat.reduceEqDiff Nat.reduceLeDiff Nat.reduceAdd Nat.reduceSub Nat.reduceMul Int.reduceLT Int.reduceLE Int.reduceEq Int.reduceNeg
attribute [local go_sem_proc ↓] reduceIte

section
variable {σ : Sto} {o : Nat} {nl : Bool} {g : FuncId} {fs cs : List AVal} {r : Int → Int → Bool} {p : Int → Prop}

abbrev Zf3 (n : Int) : AObj := .cells false [.int .u64 n]
theorem ZlA {n : Nat} (h : n < 18446744073709551616) : IntKind.u64.wrap (n : Int) = (n : Int) := by
 have e1 : (2 : Int) ^ IntKind.u64.bits = 18446744073709551616 := by decide
 have e3 : IntKind.u64.signed = false := rfl
 simp only [IntKind.wrap, e1, e3, Bool.false_and, Bool.false_eq_true, if_false]
 omega
theorem Zqm (v : Int) (m : Nat) (h : m < 18446744073709551616) : ∃ x : Nat, x ≤ m ∧ ∀ σ : Sto, Za9 .and (.int .u64 v) (.int .u64 (m : Int)) σ = some (.int .u64 (x : Int), σ) := by
 refine ⟨(BitVec.ofInt IntKind.u64.bits v &&& BitVec.ofInt IntKind.u64.bits (m : Int)).toNat, ?_, fun σ => ?_⟩
 ·rw [BitVec.toNat_and]
  refine Nat.le_trans Nat.and_le_right ?_
  rw [BitVec.toNat_ofInt]
  have e1 : ((2 ^ IntKind.u64.bits : Nat) : Int) = 18446744073709551616 := by decide
  rw [e1]
  omega
 ·have hlt : (BitVec.ofInt IntKind.u64.bits v &&& BitVec.ofInt IntKind.u64.bits (m : Int)).toNat < 18446744073709551616 := by
   have := (BitVec.ofInt IntKind.u64.bits v &&& BitVec.ofInt IntKind.u64.bits (m : Int)).isLt
   have e1 : 2 ^ IntKind.u64.bits = 18446744073709551616 := by decide
   rwa [e1] at this
  simp only [Za9, ZcE, Zbe, if_true, ZlA hlt]
  rfl
theorem ZlB (a b : Nat) (v : Int) : ∃ x : Int, ∀ σ : Sto, Za9 .shl (.int .u64 v) (.int .u64 (b : Int)) σ = some (.int .u64 x, σ) := by
 refine ⟨IntKind.u64.wrap (v * 2 ^ (min (b : Int).toNat IntKind.u64.bits)), fun σ => ?_⟩
 ·simp only [Za9, ZcE]
  rw [if_neg (by omega)]
  rfl
theorem Zqn (a b : Nat) (v : Int) : ∃ x : Int, ∀ σ : Sto, Za9 .shr (.int .u64 v) (.int .u64 (b : Int)) σ = some (.int .u64 x, σ) := by
 refine ⟨v.fdiv (2 ^ (min (b : Int).toNat IntKind.u64.bits)), fun σ => ?_⟩
 ·simp only [Za9, ZcE]
  rw [if_neg (by omega)]
  rfl
theorem ZiR (v w : Int) : ∃ x : Int, ∀ σ : Sto, Za9 .xor (.int .u64 v) (.int .u64 w) σ = some (.int .u64 x, σ) :=
 ⟨_, fun σ => by simp only [Za9, ZcE, Zbe, if_true]; rfl⟩

theorem ZiS (ho : o < σ.length) {v : Int} {D : List Int} {R : Zs}
  (next : ∀ v' : Int, R (.int .u64 v') (stI (σ ++ [Zf3 v']) o nl D)) : Cw T false i_Xq21 [.ptr σ.length 1 0] [] (stI (σ ++ [Zf3 v]) o nl D) R := by
 rw [ZS T_Xq21 (by simp), Za Xq21.main.eq_1]
 obtain ⟨x1, h1⟩ := ZlB 0 13 v
 obtain ⟨x2, h2⟩ := ZiR v x1
 obtain ⟨x3, h3⟩ := Zqn 0 7 x2
 obtain ⟨x4, h4⟩ := ZiR x2 x3
 obtain ⟨x5, h5⟩ := ZlB 0 17 x4
 obtain ⟨x6, h6⟩ := ZiR x4 x5
 have g1 := Zdl (nl := nl) (D := D) (b := Zf3 v) ho
 have g2 := Zdl (nl := nl) (D := D) (b := Zf3 x2) ho
 have g3 := Zdl (nl := nl) (D := D) (b := Zf3 x4) ho
 have g4 := Zdl (nl := nl) (D := D) (b := Zf3 x6) ho
 have := next x6
 simp only [show ((13 : Nat) : Int) = 13 from rfl, show ((7 : Nat) : Int) = 7 from rfl, show ((17 : Nat) : Int) = 17 from rfl] at h1 h3 h5
 simp (maxSteps := 2000000) only [go_sem, g1, g2, g3, g4, h1, h2, h3, h4, h5, h6, ZiT ho]
 exact this

def pw (n : Nat) : Nat := if n < 16 then 16 else if n < 32 then 32 else if n < 64 then 64 else if n < 128 then 128 else if n < 256 then 256 else 512
def ZqY (v : Int) : AVal → Bool
 | .int .u64 k => decide (k = v)
 | _ => false
theorem Zpi : (((List.range 301).drop 13).all fun n => ZfS T 100 i_Xq17 [.int .i64 (n : Int)] (ZqY (pw n))) = true := by kernel_rfl
theorem Zvx {n : Nat} (h : 13 ≤ n) (h' : n ≤ 300) {lv : List Nat} {σ : Sto} {R : Zs} : Cw T true i_Xq17 [.int .i64 (n : Int)] lv σ R ↔ R (.int .u64 (pw n)) σ := by
 have := List.all_eq_true.1 Zpi n (by
  have : (List.range 301).drop 13 = List.range' 13 288 := by decide
  rw [this, List.mem_range'_1]; omega)
 refine ZiM T_Xq17 (by simp (maxSteps := 2000000) only [go_sem]) (fun u h => ?_) this
 unfold ZqY at h
 split at h
 ·rw [of_decide_eq_true h]
 ·cases h
theorem Zr8 {n : Nat} (h : 13 ≤ n) (h' : n ≤ 300) : n < pw n ∧ pw n ≤ 2 * n := by
 unfold pw
 repeat' split
 all_goals omega

theorem Zpj (ho : o < σ.length) {N a b t : Nat} {R : Zs} (hb : a + 13 ≤ b) (h300 : b - a ≤ 300) (hbN : b ≤ N) (hN : N < 1000000) (ht : (b - a) / 4 * 2 = t) : ∀ (m i : Nat) (v : Int) (D : List Int), a + t + 2 - i = m → D.length = N → a + 1 ≤ i →
  (∀ (v' : Int) D', Seg a b D D' → R (.tup []) (stI (σ ++ [Zf3 v']) o nl D')) →
  Run T (Ret [] R) (.inLoop Xq3.b0 :: Xq3.k0) (mkE 65 [(0, .ref o N 0 N 1), (1, .int .i64 a), (6, .int .i64 ((b - a : Nat) : Int)), (7, .ptr σ.length 1 0), (8, .int .u64 (pw (b - a))), (9, .int .i64 i)]) (stI (σ ++ [Zf3 v]) o nl D) := by
 have w2 : IntKind.i64.wrap (Int.tdiv ((b - a : Nat) : Int) 4) = (((b - a) / 4 : Nat) : Int) := by
  have : Int.tdiv ((b - a : Nat) : Int) 4 = (((b - a) / 4 : Nat) : Int) := rfl
  rw [this, Zi (by omega) (by omega)]
 have w3 : IntKind.i64.wrap ((((b - a) / 4 : Nat) : Int) * 2) = (t : Int) := by rw [Zi (by omega) (by omega)]; omega
 have w4 := Zhp (a := a) (b := t) (by omega)
 have w5 := Zj (n := a + t) (by omega)
 intro m
 induction m with
 | zero =>
  intro i v D hm hD hi next
  have hlt : ¬ (i : Int) ≤ ((a + t + 1 : Nat) : Int) := by omega
  have := next v D (Seg.refl _ _ _)
  rw [Zb, Za Xq3.b0.eq_1]
  simp (maxSteps := 2000000) only [go_sem, w2, w3, w4, w5, hlt, Za Xq3.c0.eq_1, Za Xq3.c1.eq_1, Za Xq3.c2.eq_1, Za Xq3.c3.eq_1, Xq3.k0, show ¬ ((4 : Int) = 0) by omega]
  exact this
 | succ m ih =>
  intro i v D hm hD hi next
  have hlt : (i : Int) ≤ ((a + t + 1 : Nat) : Int) := by omega
  obtain ⟨q1, q2⟩ := Zr8 (n := b - a) (by omega) h300
  have hwm : IntKind.u64.wrap ((pw (b - a) : Int) - 1) = ((pw (b - a) - 1 : Nat) : Int) := by
   have := ZlA (n := pw (b - a) - 1) (by omega)
   rw [show (pw (b - a) : Int) - 1 = ((pw (b - a) - 1 : Nat) : Int) by omega]; exact this
  rw [Zb, Za Xq3.b0.eq_1]
  simp (maxSteps := 2000000) only [go_sem, w2, w3, w4, w5, hlt, show ¬ ((4 : Int) = 0) by omega]
  unfold Zp
  refine ZiS ho fun v' => ?_
  obtain ⟨x, hx, hand⟩ := Zqm v' (pw (b - a) - 1) (by omega)
  have wx : IntKind.i64.wrap (x : Int) = (x : Int) := Zi (by omega) (by omega)
  have swp : ∀ y : Nat, a + y < b → Run T (Ret [] R) (.code Xq3.c3 :: .inBlock 1 :: .code Xq3.c2 :: .inLoop Xq3.b0 :: Xq3.k0) (mkE 65 [(0, .ref o N 0 N 1), (1, .int .i64 a), (6, .int .i64 ((b - a : Nat) : Int)), (7, .ptr σ.length 1 0), (8, .int .u64 (pw (b - a))), (9, .int .i64 i), (10, .int .i64 y)]) (stI (σ ++ [Zf3 v']) o nl D) := by
   intro y hy
   have h1 : i < D.length := by omega
   have h2 : a + y < D.length := by omega
   have h1N : i < N := by omega
   have h2N : a + y < N := by omega
   have hk1 : i + 1 ≤ N := by omega
   have hk2 : a + y + 1 ≤ N := by omega
   have w6 := Zhp (a := a) (b := y) (by omega)
   have ho' : o < (σ ++ [Zf3 v']).length := by simp; omega
   have hget := ZH (nl := nl) (D := D) ho'
   have hget2 := ZH (nl := nl) (D := D.set i D[a + y]) ho'
   have := ih (i + 1) v' (sw D i (a + y)) (by omega) (by rw [ZbS]; exact hD) (by omega) fun v'' D' h => next v'' D' ((Seg.swap (by omega) (by omega) (by omega) (by omega) (by omega)).trans h)
   rw [Za Xq3.c3.eq_1]
   simp (maxSteps := 2000000) only [go_sem, hget, hget2, hD, h1, h2, h1N, h2N, hk1, hk2, w6, Za4, List.length_set, List.length_map, Za Xq3.c2.eq_1, Zj (show i < 9223372036854775807 by omega)]
   rw [ZcD h1 h2]
   exact this
  by_cases hge : b - a ≤ x
  ·have hge' : ((b - a : Nat) : Int) ≤ (x : Int) := by omega
   have w7 := ZeE (a := x) (b := b - a) (by omega) hge
   have := swp (x - (b - a)) (by omega)
   simp (maxSteps := 2000000) only [go_sem, hwm, hand, wx, hge', w7]
   exact this
  ·have hge' : ¬ ((b - a : Nat) : Int) ≤ (x : Int) := by omega
   have := swp x (by omega)
   simp (maxSteps := 2000000) only [go_sem, hwm, hand, wx, hge']
   exact this

theorem Zfb (ho : o < σ.length) {N a b : Nat} {D : List Int} {R : Zs} (hb : a + 13 ≤ b) (h300 : b - a ≤ 300) (hbN : b ≤ N) (hN : N < 1000000) (hD : D.length = N)
  (next : ∀ (v' : Int) D', Seg a b D D' → R (.tup []) (stI (σ ++ [Zf3 v']) o nl D')) : Cw T false i_Xq3 [.ref o N 0 N 1, .int .i64 a, .int .i64 b] [] (stI σ o nl D) R := by
 rw [ZS T_Xq3 (by simp), Za Xq3.main.eq_1]
 obtain ⟨t, ht⟩ : ∃ t, (b - a) / 4 * 2 = t := ⟨_, rfl⟩
 have w1 := ZeE (a := b) (b := a) (by omega) (by omega)
 have w2 : IntKind.i64.wrap (Int.tdiv ((b - a : Nat) : Int) 4) = (((b - a) / 4 : Nat) : Int) := by
  have : Int.tdiv ((b - a : Nat) : Int) 4 = (((b - a) / 4 : Nat) : Int) := rfl
  rw [this, Zi (by omega) (by omega)]
 have w3 : IntKind.i64.wrap ((((b - a) / 4 : Nat) : Int) * 2) = (t : Int) := by rw [Zi (by omega) (by omega)]; omega
 have w4 := Zhp (a := a) (b := t) (by omega)
 have w5 : IntKind.i64.wrap (((a + t : Nat) : Int) - 1) = ((a + t - 1 : Nat) : Int) := by rw [Zi (by omega) (by omega)]; omega
 have e8 : (8 : Int) ≤ ((b - a : Nat) : Int) := by omega
 have wu := ZlA (n := b - a) (by omega)
 have hlen := ZlC (σ := σ) (o := o) (nl := nl) (D := D)
 have hpw := fun (Q : Zg) (k : List Item) (os : List AOper) (d : Option Nat) (e : Env) (σ : Sto) => callK_of (T := T) (Q := Q) (k := k) (os := os) (d := d) (e := e) (σ := σ) (Zvx (n := b - a) (by omega) h300)
 have := Zpj (nl := nl) (R := R) ho hb h300 hbN hN ht _ (a + t - 1) ((b - a : Nat) : Int) D rfl hD (by omega) next
 simp (maxSteps := 2000000) only [go_sem, w1, w2, w3, w4, w5, e8, wu, hlen, ZfF ho, ZiT ho, hpw, Zdl ho, show ¬ ((4 : Int) = 0) by omega]
 exact this
end
end Go.Abs
/- Walks of the library's sorting: the whole. -/
set_option linter.unusedSimpArgs false
set_option linter.unusedVariables false
set_option maxRecDepth 100000
set_option maxHeartbeats 4000000
namespace Go.Abs
open Go
attribute [local go_sem_proc] Nat.reduceLT Nat.reduceEqDiff Nat.reduceLeDiff Nat.reduceAdd Nat.reduceSub Nat.reduceMul Int.reduceLT Int.reduceLE Int.reduceEq Int.reduceNeg
attribute [local go_sem_proc ↓] reduceIte

section
variable {σ : Sto} {o : Nat} {nl : Bool} {g : FuncId} {fs cs : List AVal} {r : Int → Int → Bool} {p : Int → Prop}

def Zbj (r : Int → Int → Bool) (D : List Int) (a b : Nat) : Prop := 0 < a → ∀ k, a ≤ k → k < b → r (gd D k) (gd D (a - 1)) = false
theorem Zbj.seg {D D' : List Int} {a b : Nat} (h : Zbj r D a b) (hs : Seg a b D D') : Zbj r D' a b := fun h0 => by
 rw [hs.out (a - 1) (by omega)]
 exact hs.seg (fun x => r x (gd D (a - 1)) = false) (h h0)
theorem Zpd {D : List Int} (h : D.Nodup) {i j : Nat} (hi : i < D.length) (hj : j < D.length) (hne : i ≠ j) : gd D i ≠ gd D j := by
 rw [Zy hi, Zy hj]
 have := List.pairwise_iff_getElem.1 h
 rcases Nat.lt_or_gt_of_ne hne with hlt | hlt
 ·exact this i j hi hj hlt
 ·exact fun e => this j i hj hi hlt e.symm
theorem ZuF (hO : Ord3 r p) {D : List Int} {a b mid : Nat} (hp : ∀ x ∈ D, p x) (hb : b ≤ D.length) (h1 : a ≤ mid) (h2 : mid < b) (s1 : Zw r D a mid) (s2 : Zw r D (mid + 1) b) (l : ∀ k, a ≤ k → k < mid → r (gd D k) (gd D mid) = true) (m : ∀ k, mid < k → k < b → r (gd D k) (gd D mid) = false) : Zw r D a b := by
 have l' : ∀ k, a ≤ k → k < mid → r (gd D mid) (gd D k) = false := fun k hk hk' => hO.asym _ _ (hp _ (Zae (by omega))) (hp _ (Zae (by omega))) (l k hk hk')
 intro u v hu huv hv
 by_cases e1 : v < mid
 ·exact s1 u v hu huv e1
 ·by_cases e2 : v = mid
  ·subst e2; exact l' u hu huv
  ·by_cases e3 : mid < u
   ·exact s2 u v (by omega) huv hv
   ·by_cases e4 : u = mid
    ·subst e4; exact m v huv hv
    ·exact hO.trans _ _ _ (hp _ (Zae (by omega))) (hp _ (Zae (by omega))) (hp _ (Zae (by omega))) (m v (by omega) hv) (l' u hu (by omega))

def Zj2 (σ : Sto) (o : Nat) (nl : Bool) (g : FuncId) (fs cs : List AVal) (r : Int → Int → Bool) (p : Int → Prop) (N m : Nat) : Prop :=
 ∀ (E : Sto) (a b lim : Nat) (wb wp : Bool) (D : List Int) (R : Zs), b - a ≤ m → a ≤ b → b ≤ N → lim < 1000 → D.length = N → (∀ x ∈ D, p x) → D.Nodup → Zbj r D a b →
  (∀ E' D', Seg a b D D' → Zw r D' a b → R (.tup []) (stI (σ ++ E') o nl D')) →
  Run T (Ret [] R) (.inLoop Xq11.b0 :: Xq11.k0) (mkE 134 [(0, .ref o N 0 N 1), (1, .int .i64 a), (2, .int .i64 b), (3, .int .i64 lim), (8, .bool wb), (9, .bool wp)]) (stI (σ ++ E) o nl D)

theorem ZdK {N m : Nat} (hm : Zj2 σ o nl g fs cs r p N m) {E : Sto} {a b lim : Nat} {D : List Int} {R : Zs} (h1 : b - a ≤ m) (h2 : a ≤ b) (h3 : b ≤ N) (h4 : lim < 1000) (h5 : D.length = N) (h6 : ∀ x ∈ D, p x) (h7 : D.Nodup) (h8 : Zbj r D a b)
  (next : ∀ E' D', Seg a b D D' → Zw r D' a b → R (.tup []) (stI (σ ++ E') o nl D')) : Cw T false i_Xq11 [.ref o N 0 N 1, .int .i64 a, .int .i64 b, .int .i64 lim] [] (stI (σ ++ E) o nl D) R := by
 rw [ZS T_Xq11 (by simp), Za Xq11.main.eq_1]
 simp (maxSteps := 2000000) only [go_sem]
 exact hm E a b lim true true D R h1 h2 h3 h4 h5 h6 h7 h8 next

theorem Zpe (S : Srt σ o nl g fs cs r p) {N m a b lim pv len : Nat} {wb wp : Bool} {E : Sto} {D : List Int} {R : Zs} (hN : N < 1000000) (hm : Zj2 σ o nl g fs cs r p N m) (hab : a + 12 < b) (hbm : b - a ≤ m + 1) (hbN : b ≤ N) (hlim : lim < 1000) (hlen : len < 1000000) (hap : a ≤ pv) (hpb : pv < b) (hD : D.length = N) (hp : ∀ x ∈ D, p x) (hnd : D.Nodup) (hl : Zbj r D a b)
  (next : ∀ E' D', Seg a b D D' → Zw r D' a b → R (.tup []) (stI (σ ++ E') o nl D')) :
  Run T (Ret [] R) (.code Xq11.c0 :: .inBlock 1 :: .inLoop Xq11.b0 :: Xq11.k0) (mkE 134 [(0, .ref o N 0 N 1), (1, .int .i64 a), (2, .int .i64 b), (3, .int .i64 lim), (8, .bool wb), (9, .bool wp), (10, .int .i64 len), (11, .int .i64 pv)]) (stI (σ ++ E) o nl D) := by
 have SE := S.app E
 have h1 : pv < D.length := by omega
 have h1N : pv < N := by omega
 have hget := ZH (nl := nl) (D := D) SE.lt
 have w8 : IntKind.i64.wrap (Int.tdiv (len : Int) 8) = ((len / 8 : Nat) : Int) := by
  have : Int.tdiv (len : Int) 8 = ((len / 8 : Nat) : Int) := rfl
  rw [this, Zi (by omega) (by omega)]
 rw [Za Xq11.c0.eq_1]
 have fin : ∀ (mid : Nat) (D1 : List Int) (x : Bool), a ≤ mid → mid < b → Seg a b D D1 → (∀ k, a ≤ k → k < mid → r (gd D1 k) (gd D1 mid) = true) → (∀ k, mid < k → k < b → r (gd D1 k) (gd D1 mid) = false) →
   (∀ x ∈ D1, p x) ∧ D1.length = N ∧ D1.Nodup ∧ Zbj r D1 a mid ∧ Zbj r D1 (mid + 1) b ∧
   (∀ (wb : Bool) E' D2, Seg a mid D1 D2 → Zw r D2 a mid → Run T (Ret [] R) (.inLoop Xq11.b0 :: Xq11.k0) (mkE 134 [(0, .ref o N 0 N 1), (1, .int .i64 ((mid + 1 : Nat) : Int)), (2, .int .i64 b), (3, .int .i64 lim), (8, .bool wb), (9, .bool x)]) (stI (σ ++ E') o nl D2)) ∧
   (∀ (wb : Bool) E' D2, Seg (mid + 1) b D1 D2 → Zw r D2 (mid + 1) b → Run T (Ret [] R) (.inLoop Xq11.b0 :: Xq11.k0) (mkE 134 [(0, .ref o N 0 N 1), (1, .int .i64 a), (2, .int .i64 mid), (3, .int .i64 lim), (8, .bool wb), (9, .bool x)]) (stI (σ ++ E') o nl D2)) := by
  intro mid D1 x q1 q2 q3 q4 q5
  have hp1 : ∀ x ∈ D1, p x := fun x hx => hp x (q3.perm.mem_iff.1 hx)
  have hD1 : D1.length = N := q3.len.trans hD
  have hnd1 : D1.Nodup := q3.perm.nodup_iff.2 hnd
  have hl1 := hl.seg q3
  have hll : Zbj r D1 a mid := fun h0 k hk hk' => hl1 h0 k hk (by omega)
  have hlr : Zbj r D1 (mid + 1) b := fun _ k hk hk' => by rw [Nat.add_sub_cancel]; exact q5 k (by omega) hk'
  have done : ∀ (D2 D3 : List Int), Seg a mid D1 D2 → Zw r D2 a mid → Seg (mid + 1) b D2 D3 → Zw r D3 (mid + 1) b → Seg a b D D3 ∧ Zw r D3 a b := by
   intro D2 D3 k1 k2 k3 k4
   have hs : Seg a b D1 D3 := (k1.mono (Nat.le_refl _) (by omega)).trans (k3.mono (by omega) (Nat.le_refl _))
   have em : gd D3 mid = gd D1 mid := by rw [k3.out mid (by omega), k1.out mid (by omega)]
   refine ⟨q3.trans hs, ZuF S.toOrd3 (fun x hx => hp1 x (hs.perm.mem_iff.1 hx)) (by rw [hs.len]; omega) q1 q2 (fun u v hu huv hv => by rw [k3.out u (by omega), k3.out v (by omega)]; exact k2 u v hu huv hv) k4 (fun k hk hk' => ?_) fun k hk hk' => ?_⟩
   ·rw [em, k3.out k (by omega)]
    exact k1.seg (fun x => r x (gd D1 mid) = true) q4 k hk hk'
   ·rw [em]
    refine k3.seg (fun x => r x (gd D1 mid) = false) (fun k hk hk' => ?_) k (by omega) hk'
    rw [k1.out k (by omega)]; exact q5 k (by omega) hk'
  have done' : ∀ (D2 D3 : List Int), Seg (mid + 1) b D1 D2 → Zw r D2 (mid + 1) b → Seg a mid D2 D3 → Zw r D3 a mid → Seg a b D D3 ∧ Zw r D3 a b := by
   intro D2 D3 k1 k2 k3 k4
   have hs : Seg a b D1 D3 := (k1.mono (by omega) (Nat.le_refl _)).trans (k3.mono (Nat.le_refl _) (by omega))
   have em : gd D3 mid = gd D1 mid := by rw [k3.out mid (by omega), k1.out mid (by omega)]
   refine ⟨q3.trans hs, ZuF S.toOrd3 (fun x hx => hp1 x (hs.perm.mem_iff.1 hx)) (by rw [hs.len]; omega) q1 q2 k4 (fun u v hu huv hv => by rw [k3.out u (by omega), k3.out v (by omega)]; exact k2 u v hu huv hv) (fun k hk hk' => ?_) fun k hk hk' => ?_⟩
   ·rw [em]
    refine k3.seg (fun x => r x (gd D1 mid) = true) (fun k hk hk' => ?_) k hk hk'
    rw [k1.out k (by omega)]; exact q4 k hk hk'
   ·rw [em, k3.out k (by omega)]
    exact k1.seg (fun x => r x (gd D1 mid) = false) (fun k hk hk' => q5 k (by omega) hk') k (by omega) hk'
  refine ⟨hp1, hD1, hnd1, hll, hlr, fun wb E' D2 k1 k2 => ?_, fun wb E' D2 k1 k2 => ?_⟩
  ·have hlr2 : Zbj r D2 (mid + 1) b := fun h0 k hk hk' => by rw [Nat.add_sub_cancel, k1.out k (by omega), k1.out mid (by omega)]; exact q5 k (by omega) hk'
   refine hm E' (mid + 1) b lim wb x D2 R (by omega) (by omega) hbN hlim (k1.len.trans hD1) (fun x hx => hp1 x (k1.perm.mem_iff.1 hx)) (k1.perm.nodup_iff.2 hnd1) hlr2 fun E'' D3 k3 k4 => ?_
   obtain ⟨f1, f2⟩ := done D2 D3 k1 k2 k3 k4
   exact next E'' D3 f1 f2
  ·have hll2 : Zbj r D2 a mid := fun h0 k hk hk' => by rw [k1.out k (by omega), k1.out (a - 1) (by omega)]; exact hl1 h0 k hk (by omega)
   refine hm E' a mid lim wb x D2 R (by omega) q1 (by omega) hlim (k1.len.trans hD1) (fun x hx => hp1 x (k1.perm.mem_iff.1 hx)) (k1.perm.nodup_iff.2 hnd1) hll2 fun E'' D3 k3 k4 => ?_
   obtain ⟨f1, f2⟩ := done' D2 D3 k1 k2 k3 k4
   exact next E'' D3 f1 f2
 by_cases h0 : 0 < a
 ·have h0' : (0 : Int) < (a : Int) := by omega
  have h2 : a - 1 < D.length := by omega
  have h2N : a - 1 < N := by omega
  have w1 : IntKind.i64.wrap ((a : Int) - 1) = ((a - 1 : Nat) : Int) := by rw [Zi (by omega) (by omega)]; omega
  obtain ⟨c, hcr, hcall⟩ := SE.at D[a - 1] D[pv] D (hp _ (List.getElem_mem h2)) (hp _ (List.getElem_mem h1))
  have hr : r D[a - 1] D[pv] = true := by
   have hne := Zpd hnd h2 h1 (by omega)
   have hno := hl h0 pv hap hpb
   rw [Zy h1, Zy h2] at hno
   rw [Zy h1, Zy h2] at hne
   rcases S.tot _ _ (hp _ (List.getElem_mem h2)) (hp _ (List.getElem_mem h1)) hne with h | h
   ·exact h
   ·rw [hno] at h; cases h
  have hcn : c < 0 := by simpa [hr] using hcr
  simp (maxSteps := 2000000) only [go_sem, h0', hget, hD, h1, h2, h1N, h2N, w1, hcall, hcn]
  unfold Zp
  refine Zed SE hN hap hpb hbN hD hp fun mid D1 x q1 q2 q3 q4 q5 => ?_
  obtain ⟨f1, f2, f3, f4, f5, f6, f7⟩ := fin mid D1 x q1 q2 q3 q4 q5
  have w2 := ZeE (a := mid) (b := a) (by omega) (by omega)
  have w3 := ZeE (a := b) (b := mid) (by omega) (by omega)
  by_cases hlr : mid - a < b - mid
  ·have hlr' : ((mid - a : Nat) : Int) < ((b - mid : Nat) : Int) := by omega
   simp (maxSteps := 2000000) only [go_sem, w2, w3, w8, hlr', show ¬ ((8 : Int) = 0) by omega]
   unfold Zp
   refine ZdK hm (by omega) q1 (by omega) hlim f2 f1 f3 f4 fun E' D2 k1 k2 => ?_
   have := f6 (decide (((len / 8 : Nat) : Int) ≤ ((mid - a : Nat) : Int))) E' D2 k1 k2
   simp (maxSteps := 2000000) only [go_sem, Zj (show mid < 9223372036854775807 by omega)]
   exact this
  ·have hlr' : ¬ ((mid - a : Nat) : Int) < ((b - mid : Nat) : Int) := by omega
   simp (maxSteps := 2000000) only [go_sem, w2, w3, w8, hlr', Zj (show mid < 9223372036854775807 by omega), show ¬ ((8 : Int) = 0) by omega]
   unfold Zp
   refine ZdK hm (by omega) (by omega) hbN hlim f2 f1 f3 f5 fun E' D2 k1 k2 => ?_
   have := f7 (decide (((len / 8 : Nat) : Int) ≤ ((b - mid : Nat) : Int))) E' D2 k1 k2
   simp (maxSteps := 2000000) only [go_sem]
   exact this
 ·have h0' : ¬ (0 : Int) < (a : Int) := by omega
  simp (maxSteps := 2000000) only [go_sem, h0']
  unfold Zp
  refine Zed SE hN hap hpb hbN hD hp fun mid D1 x q1 q2 q3 q4 q5 => ?_
  obtain ⟨f1, f2, f3, f4, f5, f6, f7⟩ := fin mid D1 x q1 q2 q3 q4 q5
  have w2 := ZeE (a := mid) (b := a) (by omega) (by omega)
  have w3 := ZeE (a := b) (b := mid) (by omega) (by omega)
  by_cases hlr : mid - a < b - mid
  ·have hlr' : ((mid - a : Nat) : Int) < ((b - mid : Nat) : Int) := by omega
   simp (maxSteps := 2000000) only [go_sem, w2, w3, w8, hlr', show ¬ ((8 : Int) = 0) by omega]
   unfold Zp
   refine ZdK hm (by omega) q1 (by omega) hlim f2 f1 f3 f4 fun E' D2 k1 k2 => ?_
   have := f6 (decide (((len / 8 : Nat) : Int) ≤ ((mid - a : Nat) : Int))) E' D2 k1 k2
   simp (maxSteps := 2000000) only [go_sem, Zj (show mid < 9223372036854775807 by omega)]
   exact this
  ·have hlr' : ¬ ((mid - a : Nat) : Int) < ((b - mid : Nat) : Int) := by omega
   simp (maxSteps := 2000000) only [go_sem, w2, w3, w8, hlr', Zj (show mid < 9223372036854775807 by omega), show ¬ ((8 : Int) = 0) by omega]
   unfold Zp
   refine ZdK hm (by omega) (by omega) hbN hlim f2 f1 f3 f5 fun E' D2 k1 k2 => ?_
   have := f7 (decide (((len / 8 : Nat) : Int) ≤ ((b - mid : Nat) : Int))) E' D2 k1 k2
   simp (maxSteps := 2000000) only [go_sem]
   exact this

theorem Zpf (S : Srt σ o nl g fs cs r p) {N m a b lim pv len : Nat} {h : Int} {wb wp : Bool} {E : Sto} {D : List Int} {R : Zs} (hN : N < 1000000) (hm : Zj2 σ o nl g fs cs r p N m) (hab : a + 12 < b) (hbm : b - a ≤ m + 1) (hbN : b ≤ N) (hlim : lim < 1000) (hlen : len < 1000000) (hap : a ≤ pv) (hpb : pv < b) (hD : D.length = N) (hp : ∀ x ∈ D, p x) (hnd : D.Nodup) (hl : Zbj r D a b)
  (next : ∀ E' D', Seg a b D D' → Zw r D' a b → R (.tup []) (stI (σ ++ E') o nl D')) :
  Run T (Ret [] R) (.code Xq11.c1 :: .inBlock 1 :: .inLoop Xq11.b0 :: Xq11.k0) (mkE 134 [(0, .ref o N 0 N 1), (1, .int .i64 a), (2, .int .i64 b), (3, .int .i64 lim), (8, .bool wb), (9, .bool wp), (10, .int .i64 len), (11, .int .i64 pv), (12, .int .i64 h)]) (stI (σ ++ E) o nl D) := by
 have SE := S.app E
 have c0 := Zpe (wb := wb) (wp := wp) (E := E) S hN hm hab hbm hbN hlim hlen hap hpb hD hp hnd hl next
 rw [Za Xq11.c1.eq_1]
 cases wb with
 | false => simp (maxSteps := 2000000) only [go_sem]; exact c0
 | true =>
  cases wp with
  | false => simp (maxSteps := 2000000) only [go_sem]; exact c0
  | true =>
   by_cases h1 : h = 1
   ·simp (maxSteps := 2000000) only [go_sem, h1]
    unfold Zp
    refine ZcI SE hN (by omega) hbN hD hp hl fun D' x k1 k2 => ?_
    cases x with
    | true =>
     have := next E D' k1 (k2 rfl)
     simp (maxSteps := 2000000) only [go_sem]
     exact this
    | false =>
     have c0' := Zpe (wb := true) (wp := true) (E := E) S hN hm hab hbm hbN hlim hlen hap hpb (k1.len.trans hD) (fun x hx => hp x (k1.perm.mem_iff.1 hx)) (k1.perm.nodup_iff.2 hnd) (hl.seg k1) fun E' D'' q1 q2 => next E' D'' (k1.trans q1) q2
     simp (maxSteps := 2000000) only [go_sem]
     exact c0'
   ·simp (maxSteps := 2000000) only [go_sem, h1]
    exact c0

theorem Zpg (S : Srt σ o nl g fs cs r p) {N m a b lim len : Nat} {wb wp : Bool} {E : Sto} {D : List Int} {R : Zs} (hN : N < 1000000) (hm : Zj2 σ o nl g fs cs r p N m) (hab : a + 12 < b) (hbm : b - a ≤ m + 1) (hbN : b ≤ N) (hlim : lim < 1000) (hlen : len < 1000000) (hD : D.length = N) (hp : ∀ x ∈ D, p x) (hnd : D.Nodup) (hl : Zbj r D a b)
  (next : ∀ E' D', Seg a b D D' → Zw r D' a b → R (.tup []) (stI (σ ++ E') o nl D')) :
  Run T (Ret [] R) (.code Xq11.c2 :: .inBlock 1 :: .inLoop Xq11.b0 :: Xq11.k0) (mkE 134 [(0, .ref o N 0 N 1), (1, .int .i64 a), (2, .int .i64 b), (3, .int .i64 lim), (8, .bool wb), (9, .bool wp), (10, .int .i64 len)]) (stI (σ ++ E) o nl D) := by
 have SE := S.app E
 rw [Za Xq11.c2.eq_1]
 simp (maxSteps := 2000000) only [go_sem]
 unfold Zp
 refine Zf4 SE hN hab hbN hD hp fun n h x hx hxb => ?_
 rw [List.append_assoc]
 by_cases h2 : h = 2
 ·simp (maxSteps := 2000000) only [go_sem, h2]
  unfold Zp
  refine Zj3 (S.app (E ++ [boxI n])).lt hN (by omega) hbN hD fun D' k1 => ?_
  have w1 : IntKind.i64.wrap ((b : Int) - 1) = ((b - 1 : Nat) : Int) := by rw [Zi (by omega) (by omega)]; omega
  have w2 := ZeE (a := x) (b := a) (by omega) hx
  have w3 := ZeE (a := b - 1) (b := x - a) (by omega) (by omega)
  have := Zpf (wb := wb) (wp := wp) (h := 1) (E := E ++ [boxI n]) S hN hm hab hbm hbN hlim hlen (pv := b - 1 - (x - a)) (by omega) (by omega) (k1.len.trans hD) (fun x hx => hp x (k1.perm.mem_iff.1 hx)) (k1.perm.nodup_iff.2 hnd) (hl.seg k1) fun E' D'' q1 q2 => next E' D'' (k1.trans q1) q2
  simp (maxSteps := 2000000) only [go_sem, w1, w2, w3]
  exact this
 ·have := Zpf (wb := wb) (wp := wp) (h := h) (E := E ++ [boxI n]) S hN hm hab hbm hbN hlim hlen hx hxb hD hp hnd hl next
  simp (maxSteps := 2000000) only [go_sem, h2]
  exact this

theorem Zql (S : Srt σ o nl g fs cs r p) {N : Nat} (hN : N ≤ 300) : ∀ m, Zj2 σ o nl g fs cs r p N m := by
 have small : ∀ (E : Sto) (a b lim : Nat) (wb wp : Bool) (D : List Int) (R : Zs), b - a ≤ 12 → a ≤ b → b ≤ N → lim < 1000 → D.length = N → (∀ x ∈ D, p x) → D.Nodup → Zbj r D a b →
   (∀ E' D', Seg a b D D' → Zw r D' a b → R (.tup []) (stI (σ ++ E') o nl D')) →
   Run T (Ret [] R) (.inLoop Xq11.b0 :: Xq11.k0) (mkE 134 [(0, .ref o N 0 N 1), (1, .int .i64 a), (2, .int .i64 b), (3, .int .i64 lim), (8, .bool wb), (9, .bool wp)]) (stI (σ ++ E) o nl D) := by
  intro E a b lim wb wp D R h12 hab hbN hlim hD hp hnd hl next
  have w1 := ZeE (a := b) (b := a) (by omega) (by omega)
  have e1 : ((b - a : Nat) : Int) ≤ 12 := by omega
  rw [Zb, Za Xq11.b0.eq_1]
  simp (maxSteps := 2000000) only [go_sem, w1, e1]
  unfold Zp
  refine Zfe (S.app E) (by omega) hab hbN hD hp fun D' k1 k2 => ?_
  have := next E D' k1 k2
  simp (maxSteps := 2000000) only [go_sem]
  exact this
 intro m
 induction m with
 | zero =>
  intro E a b lim wb wp D R hm hab hbN hlim hD hp hnd hl next
  exact small E a b lim wb wp D R (by omega) hab hbN hlim hD hp hnd hl next
 | succ m ih =>
  intro E a b lim wb wp D R hm hab hbN hlim hD hp hnd hl next
  by_cases h12 : b - a ≤ 12
  ·exact small E a b lim wb wp D R h12 hab hbN hlim hD hp hnd hl next
  ·have w1 := ZeE (a := b) (b := a) (by omega) (by omega)
   have e1 : ¬ ((b - a : Nat) : Int) ≤ 12 := by omega
   rw [Zb, Za Xq11.b0.eq_1]
   by_cases h0 : lim = 0
   ·subst h0
    simp (maxSteps := 2000000) only [go_sem, w1, e1, Int.natCast_zero, Int.ofNat_zero]
    unfold Zp
    refine ZiV (S.app E) (by omega) (by omega) hbN hD hp fun D' k1 k2 => ?_
    have := next E D' k1 k2
    simp (maxSteps := 2000000) only [go_sem]
    exact this
   ·have h0' : ¬ (lim : Int) = 0 := by omega
    cases wb with
    | true =>
     have := Zpg (wb := true) (wp := wp) (E := E) S (by omega) ih (by omega) hm hbN hlim (len := b - a) (by omega) hD hp hnd hl next
     simp (maxSteps := 2000000) only [go_sem, w1, e1, h0']
     exact this
    | false =>
     have w2 : IntKind.i64.wrap ((lim : Int) - 1) = ((lim - 1 : Nat) : Int) := by rw [Zi (by omega) (by omega)]; omega
     simp (maxSteps := 2000000) only [go_sem, w1, e1, h0']
     unfold Zp
     refine Zfb (S.app E).lt (by omega) (by omega) hbN (by omega) hD fun v D' k1 => ?_
     rw [List.append_assoc]
     have := Zpg (wb := false) (wp := wp) (E := E ++ [Zf3 v]) S (by omega) ih (by omega) hm hbN (lim := lim - 1) (by omega) (len := b - a) (by omega) (k1.len.trans hD) (fun x hx => hp x (k1.perm.mem_iff.1 hx)) (k1.perm.nodup_iff.2 hnd) (hl.seg k1) fun E' D'' q1 q2 => next E' D'' (k1.trans q1) q2
     simp (maxSteps := 2000000) only [go_sem, w2]
     exact this

def lenOf (n : Nat) : Nat := if n = 0 then 0 else if n = 1 then 1 else if n < 4 then 2 else if n < 8 then 3 else if n < 16 then 4 else if n < 32 then 5 else if n < 64 then 6 else if n < 128 then 7 else if n < 256 then 8 else 9
def ZqX (v : Int) : AVal → Bool
 | .int .i64 k => decide (k = v)
 | _ => false
theorem Zph : ((List.range 301).all fun n => ZfS T 100 i_Xq63 [.int .u64 (n : Int)] (ZqX (lenOf n))) = true := by kernel_rfl
theorem Zvw (n : Nat) (h : n ≤ 300) {lv : List Nat} {σ : Sto} {R : Zs} : Cw T true i_Xq63 [.int .u64 (n : Int)] lv σ R ↔ R (.int .i64 (lenOf n)) σ := by
 have := List.all_eq_true.1 Zph n (by simp; omega)
 refine ZiM T_Xq63 (by simp (maxSteps := 2000000) only [go_sem]) (fun u h => ?_) this
 unfold ZqX at h
 split at h
 ·rw [of_decide_eq_true h]
 ·cases h

theorem ZiP (S : Tot r p) {D D' : List Int} (hp : ∀ x ∈ D, p x) (hnd : D.Nodup) (h1 : D'.Perm D) (h2 : Zw r D' 0 D'.length) : D' = Zfg r D := by
 have hp' : ∀ x ∈ D', p x := fun x hx => hp x (h1.mem_iff.1 hx)
 have pw1 : D'.Pairwise fun a b => r b a = false := by
  rw [List.pairwise_iff_getElem]
  intro i j hi hj hij
  have := h2 i j (Nat.zero_le _) hij hj
  rwa [Zy hi, Zy hj] at this
 have pw2 : (Zfg r D).Pairwise fun a b => r b a = false := Zfh S.toOrd3 hp
 have up : ∀ {l : List Int}, (∀ x ∈ l, p x) → l.Nodup → (l.Pairwise fun a b => r b a = false) → l.Pairwise fun a b => r a b = true := by
  intro l hl hn hq
  refine (hq.and hn).imp_of_mem fun {a b} ha hb hab => ?_
  rcases S.tot a b (hl a ha) (hl b hb) hab.2 with h | h
  ·exact h
  ·rw [hab.1] at h; cases h
 refine Zef (p := p) S.asym hp' (fun x => ?_) (up hp' (h1.nodup_iff.2 hnd) pw1) (up (fun x hx => hp x ((ZfH r).1 hx)) ((Zdm r D).nodup_iff.2 hnd) pw2)
 rw [h1.mem_iff, ZfH]

theorem ZiQ (S : Srt σ o nl g fs cs r p) {D : List Int} {R : Zs} (hN : D.length ≤ 300) (hp : ∀ x ∈ D, p x) (hnd : D.Nodup)
  (next : ∀ E, R (.tup []) (stI (σ ++ E) o nl (Zfg r D))) : Cw T false i_Xq27 [.ref o D.length 0 D.length 1] [] (stI σ o nl D) R := by
 rw [ZS T_Xq27 (by simp), Za Xq27.main.eq_1]
 have hu := ZlA (n := D.length) (by omega)
 have hl : lenOf D.length < 1000 := by
  unfold lenOf
  (repeat' split) <;> omega
 have hget := ZH (nl := nl) (D := D) S.lt
 simp (maxSteps := 2000000) only [go_sem, hget, List.length_map, hu, callK_of (Zvw D.length hN)]
 unfold Zp
 have hall := Zql S hN D.length
 have e : stI σ o nl D = stI (σ ++ []) o nl D := by rw [List.append_nil]
 rw [e]
 refine ZdK (E := []) hall (a := 0) (by omega) (Nat.zero_le _) (Nat.le_refl _) hl rfl hp hnd (fun h => by omega) fun E' D' k1 k2 => ?_
 rw [← k1.len] at k2
 rw [ZiP S.toTot hp hnd k1.perm k2]
 have := next E'
 simp (maxSteps := 2000000) only [go_sem]
 exact this
end
end Go.Abs
/- Walks of chapter 36: slices.Sort of different numbers; levels. -/
set_option linter.unusedSimpArgs false
set_option linter.unusedVariables false
set_option maxRecDepth 100000
set_option maxHeartbeats 4000000
namespace Go.Abs
open Go
attribute [local go_sem_proc] Nat.reduceLT Nat.reduceEqDiff Nat.reduceLeDiff Nat.reduceAdd Nat.reduceSub Nat.reduceMul Int.reduceLT Int.reduceLE Int.reduceEq Int.reduceNeg
attribute [local go_sem_proc ↓] reduceIte

theorem Znn {a : Int} {lv : List Nat} {σ : Sto} {R : Zs} : Cw T true i_Xq31 [.int .i64 a] lv σ R ↔ R (.bool false) σ := by
 refine Zt T_Xq31 (by simp only [go_sem]) (by simp) ?_; rw [Za Xq31.main.eq_1]
 simp (maxSteps := 2000000) only [go_sem]
@[go_sem] theorem Zts {a : Int} {Q : Zg} {k : List Item} {os : List AOper} {d : Option Nat} {e : Env} {σ : Sto} : Zp T Q k os d e σ true i_Xq31 [.int .i64 a] ↔ Run T Q (.ops os :: k) (put e d (.bool false)) σ := Znn

theorem Zno {x y : Int} {lv : List Nat} {σ : Sto} {R : Zs} : Cw T true i_Xq40 [.int .i64 x, .int .i64 y] lv σ R ↔ R (.bool (decide (x < y))) σ := by
 refine Zt T_Xq40 (by simp only [go_sem]) (by simp) ?_; rw [Za Xq40.main.eq_1]
 by_cases h : x < y
 ·simp (maxSteps := 2000000) only [go_sem, h]
 ·simp (maxSteps := 2000000) only [go_sem, h]
@[go_sem] theorem Zia {x y : Int} {Q : Zg} {k : List Item} {os : List AOper} {d : Option Nat} {e : Env} {σ : Sto} : Zp T Q k os d e σ true i_Xq40 [.int .i64 x, .int .i64 y] ↔ Run T Q (.ops os :: k) (put e d (.bool (decide (x < y)))) σ := Zno

abbrev ltI (x y : Int) : Bool := decide (x < y)
theorem Zvv {σ : Sto} {o : Nat} {nl : Bool} (ho : o < σ.length) : Srt σ o nl 0 [] [] ltI (fun _ => True) where
 asym := fun a b _ _ h => by simp only [ltI, decide_eq_true_eq, decide_eq_false_iff_not] at *; omega
 trans := fun a b c _ _ _ h1 h2 => by simp only [ltI, decide_eq_false_iff_not] at *; omega
 tot := fun a b _ _ h => by simp only [ltI, decide_eq_true_eq]; omega
 lt := ho
 cmp := fun E x y D _ _ => by
  by_cases h : x < y
  ·refine ⟨-1, by show decide ((-1 : Int) < 0) = decide (x < y); rw [decide_eq_true h]; rfl, fun {Q k os d e} => ?_⟩
   have := @Zia x y Q k os d e (stI (σ ++ E) o nl D)
   rwa [decide_eq_true h] at this
  ·refine ⟨1, by show decide ((1 : Int) < 0) = decide (x < y); rw [decide_eq_false h]; rfl, fun {Q k os d e} => ?_⟩
   have := @Zia x y Q k os d e (stI (σ ++ E) o nl D)
   rwa [decide_eq_false h] at this
abbrev Zao (D : List Int) : List Int := Zfg ltI D
theorem Znp {σ : Sto} {o : Nat} {nl : Bool} {D : List Int} {R : Zs} (hσ : σ[o]? = some (.cells nl (D.map fun n => .int .i64 n))) (hN : D.length ≤ 300) (hnd : D.Nodup)
  (next : ∀ E, R (.tup []) (σ.set o (.cells nl ((Zao D).map fun n => .int .i64 n)) ++ E)) : Cw T false i_Xq27 [.ref o D.length 0 D.length 1] [] σ R := by
 have ho : o < σ.length := (List.getElem?_eq_some_iff.1 hσ).1
 have e0 : σ = stI σ o nl D := (Zer hσ).symm
 rw [e0]
 refine ZiQ (Zvv ho) hN (fun _ _ => trivial) hnd fun E => ?_
 have := next E
 rwa [← List.set_append_left _ _ ho] at this
theorem Zg9 {σ : Sto} {o : Nat} {nl : Bool} {D : List Int} {Q : Zg} {kk : List Item} {os : List AOper} {d : Option Nat} {e : Env} (hσ : σ[o]? = some (.cells nl (D.map fun n => .int .i64 n))) (hN : D.length ≤ 300) (hnd : D.Nodup)
  (next : ∀ E, Run T Q (.ops os :: kk) (put e d (.tup [])) (σ.set o (.cells nl ((Zao D).map fun n => .int .i64 n)) ++ E)) : Zp T Q kk os d e σ false i_Xq27 [.ref o D.length 0 D.length 1] := by
 unfold Zp
 exact Znp hσ hN hnd next

def lev (n : Nat) : Int := if h : n = 0 then -1 else lev (n / 4) + 1
termination_by n
decreasing_by omega
theorem ZdJ : lev 0 = -1 := by unfold lev; rfl
theorem Zgb {n : Nat} (h : n ≠ 0) : lev n = lev (n / 4) + 1 := by rw [lev, dif_neg h]
theorem Zqk : ∀ (n : Nat), -1 ≤ lev n ∧ lev n ≤ n := by
 intro n
 induction n using Nat.strongRecOn with
 | ind n ih =>
  by_cases h : n = 0
  ·subst h; rw [ZdJ]; decide
  ·have := ih (n / 4) (by omega)
   rw [Zgb h]; omega
theorem Zr7 {n k : Nat} (h : n < 4 ^ k) : lev n < k := by
 induction k generalizing n with
 | zero =>
  have : n = 0 := by omega
  subst this; rw [ZdJ]; decide
 | succ k ih =>
  by_cases h0 : n = 0
  ·subst h0; rw [ZdJ]; omega
  ·rw [Zgb h0]
   have := ih (n := n / 4) (by rw [Nat.pow_succ] at h; omega)
   omega
theorem Zpc : ∀ (c n : Nat), n ≤ c → n < 9000000000000000000 → ∀ k : Int, -1 ≤ k → k ≤ 9000000000000000000 - n → Run T (Res [.tmp 2] (.int .i64 (k + 1 + lev n))) (.inLoop Xq47.b0 :: Xq47.k0) (mkE 11 [(0, .int .i64 n), (3, .int .i64 k)]) [] := by
 intro c
 induction c with
 | zero =>
  intro n hn _ k h1 h2
  have h : n = 0 := by omega
  subst h
  rw [ZdJ, show k + 1 + -1 = k by omega]
  rw [Zb, Za Xq47.b0.eq_1]
  simp (maxSteps := 2000000) only [go_sem, Za Xq47.c0.eq_1, Xq47.k0, Int.lt_irrefl, Int.natCast_zero, Int.ofNat_zero]
 | succ c ih =>
  intro n hn hb k h1 h2
  by_cases h : n = 0
  ·subst h
   rw [ZdJ, show k + 1 + -1 = k by omega]
   rw [Zb, Za Xq47.b0.eq_1]
   simp (maxSteps := 2000000) only [go_sem, Za Xq47.c0.eq_1, Xq47.k0, Int.lt_irrefl, Int.natCast_zero, Int.ofNat_zero]
  ·have hpos : (0 : Int) < (n : Int) := by omega
   have hd : ((n : Nat) : Int).tdiv 4 = ((n / 4 : Nat) : Int) := rfl
   have w0 : IntKind.i64.wrap ((n / 4 : Nat) : Int) = ((n / 4 : Nat) : Int) := Zbc (by omega)
   have w1 : IntKind.i64.wrap (k + 1) = k + 1 := Zi (by omega) (by omega)
   have ih' := ih (n / 4) (by omega) (by omega) (k + 1) (by omega) (by omega)
   rw [Zgb h, show k + 1 + (lev (n / 4) + 1) = k + 1 + 1 + lev (n / 4) by omega]
   rw [Zb, Za Xq47.b0.eq_1]
   simp (maxSteps := 2000000) only [go_sem, hpos, hd, w0, w1]
   exact ih'
theorem Znq {n : Nat} (h : n < 9000000000000000000) {lv : List Nat} {σ : Sto} {R : Zs} : Cw T true i_Xq47 [.int .i64 (n : Int)] lv σ R ↔ R (.int .i64 (lev n)) σ := by
 refine Zt T_Xq47 (by simp only [go_sem]) (by simp) ?_; rw [Za Xq47.main.eq_1]
 have hl := Zpc n n (Nat.le_refl _) h (-1) (by omega) (by omega)
 rw [show (-1 : Int) + 1 + lev n = lev n by omega] at hl
 simp (maxSteps := 2000000) only [go_sem]
 exact hl
@[go_sem] theorem Znr {n : Nat} (h : n < 9000000000000000000) {Q : Zg} {k : List Item} {os : List AOper} {d : Option Nat} {e : Env} {σ : Sto} : Zp T Q k os d e σ true i_Xq47 [.int .i64 (n : Int)] ↔ Run T Q (.ops os :: k) (put e d (.int .i64 (lev n))) σ := Znq h

end Go.Abs
/- Walks of chapter 36: clusters in a chain; level, take and drop. -/
set_option linter.unusedSimpArgs false
set_option linter.unusedVariables false
set_option maxRecDepth 100000
set_option maxHeartbeats 4000000
namespace Go.Abs
open Go
attribute [local go_sem_proc] Nat.reduceLT Nat.reduceEqDiff Nat.reduceLeDiff Nat.reduceAdd Nat.reduceSub Nat.reduceMul Int.reduceLT Int.reduceLE Int.reduceEq Int.reduceNeg
attribute [local go_sem_proc ↓] reduceIte

structure Cl where
 o : Nat
 q : Nat
 g : List Int
 nm : Nat
abbrev clO (c : Cl) (nx : AVal) : AObj := .cells false [.ref c.q c.g.length 0 c.g.length 1, .int .i64 (c.nm : Int), nx]
abbrev gO (g : List Int) : AObj := .cells false (g.map fun i => .int .i64 i)
def hdP : List Cl → AVal
 | [] => .nilp
 | c :: _ => .ptr c.o 3 0
def ids (L : List Cl) : List Nat := L.flatMap fun c => [c.o, c.q]
theorem ZM {c : Cl} {L : List Cl} : ids (c :: L) = c.o :: c.q :: ids L := rfl
theorem Zal {A B : List Cl} : ids (A ++ B) = ids A ++ ids B := List.flatMap_append ..
theorem Zdr {c : Cl} {L : List Cl} (h : c ∈ L) : c.o ∈ ids L := List.mem_flatMap.2 ⟨c, h, by simp⟩
theorem ZdI {c : Cl} {L : List Cl} (h : c ∈ L) : c.q ∈ ids L := List.mem_flatMap.2 ⟨c, h, by simp⟩
def Chn (σ : Sto) : List Cl → Prop
 | [] => True
 | c :: L => σ[c.o]? = some (clO c (hdP L)) ∧ σ[c.q]? = some (gO c.g) ∧ Chn σ L
theorem Chn.congr {σ σ' : Sto} : ∀ {L : List Cl}, Chn σ L → (∀ i ∈ ids L, σ'[i]? = σ[i]?) → Chn σ' L
 | [], _, _ => trivial
 | c :: L, h, he => ⟨(he c.o (by simp [ZM])).trans h.1, (he c.q (by simp [ZM])).trans h.2.1, h.2.2.congr fun i hi => he i (by simp [ZM, hi])⟩
theorem Zbd {c : Cl} {L : List Cl} : hdP (c :: L) = .ptr c.o 3 0 := rfl
@[go_sem] theorem Ztr {L : List Cl} : (hdP L).cells = [hdP L] := by cases L <;> rfl
@[go_sem] theorem ZuD {L : List Cl} : (hdP L).fits 1 = true := by cases L <;> rfl
@[go_sem] theorem Zva {L : List Cl} : (hdP L).one = true := by cases L <;> rfl
structure Stand (σ : Sto) (h : Nat) (L : List Cl) : Prop where
 chn : Chn σ L
 hd : σ[h]? = some (.cells false [hdP L])
 nd : (h :: ids L).Nodup
theorem ZeC {σ : Sto} {c : Cl} {nx : AVal} (hσ : σ[c.o]? = some (clO c nx)) (hn : c.nm < 9000000000000000000) {Q : Zg} {kk : List Item} {os : List AOper} {d : Option Nat} {e : Env} (next : Run T Q (.ops os :: kk) (put e d (.int .i64 (lev c.nm))) σ) :
  Zp T Q kk os d e σ false i_Xq23 [.ptr c.o 3 0] := by
 unfold Zp
 rw [ZS T_Xq23 (by simp), Za Xq23.main.eq_1]
 simp (maxSteps := 2000000) only [go_sem, hσ, Znr hn]
 exact next
theorem Zqj {σ : Sto} {o o' : Nat} {X Y : List Int} (hσ : σ[o]? = some (gO X)) (hσ' : σ[o']? = some (gO Y)) (hb : X.length + Y.length ≤ 1000000) :
  Zbv 1 8 (.ref o X.length 0 X.length 1) (.ref o' Y.length 0 Y.length 1) σ = some (.ref o (X ++ Y).length 0 (X ++ Y).length 1, σ.set o (gO (X ++ Y))) := by
 have hl : (Y.map fun i => AVal.int .i64 i).length = Y.length := List.length_map ..
 have hr : Zai σ (.ref o' Y.length 0 Y.length 1) = some (Y.length, Y.map fun i => AVal.int .i64 i) := by
  simp only [Zai, hσ', hl, if_true, List.drop_zero, Nat.mul_one]
  rw [List.take_of_length_le (by rw [hl]; exact Nat.le_refl _)]
 have h := Zcc (k := 1) (bytes := 8) (len := X.length) (gen := X.length) (m := Y.length) hσ hr (List.length_map ..) (by simp) (by simp) (by decide) (by rw [List.all_map]; exact List.all_eq_true.2 fun x _ => rfl) (by simp only [Zm]; omega)
 rw [h]
 simp only [Nat.mul_one, List.length_append, gO, List.map_append]
theorem Znl {σ : Sto} {c x : Cl} {nc nx : AVal} (h1 : σ[c.o]? = some (clO c nc)) (h2 : σ[c.q]? = some (gO c.g)) (h3 : σ[x.o]? = some (clO x nx)) (h4 : σ[x.q]? = some (gO x.g)) (n1 : c.o ≠ c.q) (n2 : c.o ≠ x.o) (n3 : c.o ≠ x.q) (n4 : c.q ≠ x.o) (n5 : c.q ≠ x.q)
  (hl : c.g.length + x.g.length ≤ 1000000) (hs : c.nm + x.nm < 9000000000000000000) {Q : Zg} {kk : List Item} {os : List AOper} {d : Option Nat} {e : Env}
  (next : Run T Q (.ops os :: kk) (put e d (.tup [])) ((σ.set c.q (gO (c.g ++ x.g))).set c.o (clO ⟨c.o, c.q, c.g ++ x.g, c.nm + x.nm⟩ nc))) :
  Zp T Q kk os d e σ false i_Xq24 [.ptr c.o 3 0, .ptr x.o 3 0] := by
 unfold Zp
 rw [ZS T_Xq24 (by simp), Za Xq24.main.eq_1]
 have l1 : c.o < σ.length := (List.getElem?_eq_some_iff.1 h1).1
 have s1 : (σ.set c.q (gO (c.g ++ x.g)))[c.o]? = some (clO c nc) := by rw [List.getElem?_set_ne n1.symm]; exact h1
 have s2 : ∀ B, ((σ.set c.q (gO (c.g ++ x.g))).set c.o B)[c.o]? = some B := fun B => List.getElem?_set_self (by rw [List.length_set]; exact l1)
 have s3 : ∀ B, ((σ.set c.q (gO (c.g ++ x.g))).set c.o B)[x.o]? = some (clO x nx) := fun B => by rw [List.getElem?_set_ne n2, List.getElem?_set_ne n4]; exact h3
 have w : IntKind.i64.wrap ((c.nm : Int) + (x.nm : Int)) = ((c.nm + x.nm : Nat) : Int) := by rw [Zi (by omega) (by omega)]; omega
 simp (maxSteps := 2000000) only [go_sem, h1, h3]
 rw [Zqj h2 h4 hl]
 simp (maxSteps := 2000000) only [go_sem, s1, s2, s3, w, List.set_set]
 exact next
@[go_sem] theorem Zvb {b : Bool} {o a f : Nat} {σ : Sto} : Zgg b .pt (.ptr o a f) σ = some (.bool b, σ) := rfl
@[go_sem] theorem ZuE {b : Bool} {σ : Sto} : Zgg b .pt .nilp σ = some (.bool !b, σ) := rfl
theorem eqp_same {b : Bool} {o : Nat} {c : Cl} {nx : AVal} {σ : Sto} (h : σ[o]? = some (clO c nx)) : ZlO b (.ptr o 3 0) (.ptr o 3 0) σ = some (.bool !b, σ) := by
 simp only [ZlO, h, List.length_cons, List.length_nil, Nat.zero_add, and_self, if_true, decide_true]
 cases b <;> rfl
theorem Zr6 {b : Bool} {o o' : Nat} {c c' : Cl} {nx nx' : AVal} {σ : Sto} (h : σ[o]? = some (clO c nx)) (h' : σ[o']? = some (clO c' nx')) (hne : o ≠ o') : ZlO b (.ptr o 3 0) (.ptr o' 3 0) σ = some (.bool b, σ) := by
 simp only [ZlO, h, h', List.length_cons, List.length_nil, Nat.zero_add, and_self, if_true, and_true, decide_eq_false hne]
 cases b <;> rfl
theorem Chn.at {σ : Sto} : ∀ {A : List Cl} {c : Cl} {B : List Cl}, Chn σ (A ++ c :: B) → σ[c.o]? = some (clO c (hdP B)) ∧ σ[c.q]? = some (gO c.g) ∧ Chn σ B
 | [], _, _, h => h
 | _ :: A, _, _, h => Chn.at (A := A) h.2.2
theorem Znm {x : Cl} {S : List Cl} {R : Zs} : ∀ (P : List Cl) (y : Cl) {σ : Sto}, Chn σ (P ++ y :: x :: S) → (ids (P ++ y :: x :: S)).Nodup → R (.tup []) (σ.set y.o (clO y (hdP S))) →
  Run T (Ret [] R) (.inLoop Xq26.b0 :: Xq26.k0) (mkE 28 [(1, .ptr x.o 3 0), (4, hdP (P ++ y :: x :: S))]) σ := by
 intro P
 induction P with
 | nil =>
  intro y σ hC hn next
  obtain ⟨h1, h2, h3, h4, h5⟩ := hC
  have hxy : y.o ≠ x.o := by
   simp only [List.nil_append, ZM, List.nodup_cons] at hn
   exact fun e => hn.1 (by simp [e])
  have hq := @eqp_same false x.o x (hdP S) σ h3
  rw [Zb, Za Xq26.b0.eq_1]
  simp (maxSteps := 2000000) only [go_sem, Zbd, List.nil_append, h1, h3, hq, Bool.not_false, Xq26.k0]
  exact next
 | cons p P ih =>
  intro y σ hC hn next
  have hC' : Chn σ (p :: (P ++ y :: x :: S)) := hC
  obtain ⟨h1, h2, h3⟩ := hC'
  have hx := (Chn.at (A := P ++ [y]) (c := x) (B := S) (σ := σ) (by rw [List.append_assoc]; exact h3)).1
  rw [List.cons_append, ZM, List.nodup_cons, List.nodup_cons] at hn
  have ih' := ih y h3 hn.2.2 next
  obtain ⟨z, Z, hz, hxZ⟩ : ∃ z Z, P ++ y :: x :: S = z :: Z ∧ x ∈ Z := by
   cases P with
   | nil => exact ⟨y, x :: S, rfl, by simp⟩
   | cons p' P => exact ⟨p', P ++ y :: x :: S, rfl, by simp⟩
  rw [hz] at h1 h3 ih'
  have hzn := hn.2.2
  rw [hz, ZM, List.nodup_cons] at hzn
  have hne : z.o ≠ x.o := fun e => hzn.1 (by rw [e]; exact List.mem_cons_of_mem _ (Zdr hxZ))
  have hq := @Zr6 false z.o x.o z x (hdP Z) (hdP S) σ h3.1 hx hne
  rw [Zbd] at h1 ih'
  rw [Zb, Za Xq26.b0.eq_1]
  simp (maxSteps := 2000000) only [go_sem, Zbd, List.cons_append, h1, hq, Xq26.k0]
  exact ih'
end Go.Abs
/- Walks of chapter 36: a cluster takes another one, which leaves the chain. -/
set_option linter.unusedSimpArgs false
set_option linter.unusedVariables false
set_option maxRecDepth 100000
set_option maxHeartbeats 4000000
namespace Go.Abs
open Go

theorem Zga {A : List Cl} {c c' : Cl} {B B' : List Cl} (h : c'.o = c.o) : hdP (A ++ c' :: B') = hdP (A ++ c :: B) := by
 cases A with
 | nil => simp only [List.nil_append, Zbd, h]
 | cons p A => rfl
theorem Zco {l : List Nat} {a b : Nat} (ha : a ∉ l) (hb : b ∈ l) : b ≠ a := by
 intro e
 subst e
 exact ha hb
theorem Chn.upd {c c' : Cl} {B : List Cl} (ho : c'.o = c.o) (hq : c'.q = c.q) : ∀ (A : List Cl) {σ : Sto}, Chn σ (A ++ c :: B) → (ids (A ++ c :: B)).Nodup → Chn ((σ.set c.q (gO c'.g)).set c.o (clO c' (hdP B))) (A ++ c' :: B)
 | [], σ, h, hn => by
  obtain ⟨h1, h2, h3⟩ := h
  simp only [List.nil_append, ZM, List.nodup_cons, List.mem_cons, not_or] at hn
  obtain ⟨⟨n1, n2⟩, n3, n4⟩ := hn
  have l1 : c.o < σ.length := (List.getElem?_eq_some_iff.1 h1).1
  have l2 : c.q < σ.length := (List.getElem?_eq_some_iff.1 h2).1
  refine ⟨?_, ?_, h3.congr fun i hi => ?_⟩
  ·rw [ho, List.getElem?_set_self (by rw [List.length_set]; exact l1)]
  ·rw [hq, List.getElem?_set_ne n1, List.getElem?_set_self l2]
  ·rw [List.getElem?_set_ne (Zco n2 hi).symm, List.getElem?_set_ne (Zco n3 hi).symm]
 | p :: A, σ, h, hn => by
  have h' : Chn σ (p :: (A ++ c :: B)) := h
  obtain ⟨h1, h2, h3⟩ := h'
  rw [List.cons_append, ZM, List.nodup_cons, List.nodup_cons] at hn
  obtain ⟨n1, n2, n3⟩ := hn
  have hm : c ∈ A ++ c :: B := by simp
  have ih := Chn.upd ho hq A h3 n3
  refine ⟨?_, ?_, ih⟩
  ·rw [List.getElem?_set_ne (Zco n1 (List.mem_cons_of_mem _ (Zdr hm))), List.getElem?_set_ne (Zco n1 (List.mem_cons_of_mem _ (ZdI hm))), h1]
   show some (clO p (hdP (A ++ c :: B))) = some (clO p (hdP (A ++ c' :: B)))
   rw [Zga ho]
  ·rw [List.getElem?_set_ne (Zco n2 (Zdr hm)), List.getElem?_set_ne (Zco n2 (ZdI hm)), h2]
theorem Chn.cut {y x : Cl} {S : List Cl} : ∀ (P : List Cl) {σ : Sto}, Chn σ (P ++ y :: x :: S) → (ids (P ++ y :: x :: S)).Nodup → Chn (σ.set y.o (clO y (hdP S))) (P ++ y :: S)
 | [], σ, h, hn => by
  obtain ⟨h1, h2, h3, h4, h5⟩ := h
  simp only [List.nil_append, ZM, List.nodup_cons, List.mem_cons, not_or] at hn
  obtain ⟨⟨n1, n2, n3, n4⟩, n5, n6⟩ := hn
  have l1 : y.o < σ.length := (List.getElem?_eq_some_iff.1 h1).1
  refine ⟨List.getElem?_set_self l1, ?_, h5.congr fun i hi => ?_⟩
  ·rw [List.getElem?_set_ne n1]; exact h2
  ·rw [List.getElem?_set_ne (Zco n4 hi).symm]
 | p :: P, σ, h, hn => by
  have h' : Chn σ (p :: (P ++ y :: x :: S)) := h
  obtain ⟨h1, h2, h3⟩ := h'
  rw [List.cons_append, ZM, List.nodup_cons, List.nodup_cons] at hn
  obtain ⟨n1, n2, n3⟩ := hn
  have hm : y ∈ P ++ y :: x :: S := by simp
  refine ⟨?_, ?_, Chn.cut P h3 n3⟩
  ·rw [List.getElem?_set_ne (Zco n1 (List.mem_cons_of_mem _ (Zdr hm))), h1]
   show some (clO p (hdP (P ++ y :: x :: S))) = some (clO p (hdP (P ++ y :: S)))
   rw [Zga (c := y) (c' := y) rfl]
  ·rw [List.getElem?_set_ne (Zco n2 (Zdr hm)), h2]
theorem Znj {σ : Sto} {h : Nat} {x y : Cl} {P S : List Cl} (hh : σ[h]? = some (.cells false [hdP (P ++ y :: x :: S)])) (hC : Chn σ (P ++ y :: x :: S)) (hn : (ids (P ++ y :: x :: S)).Nodup) {Q : Zg} {kk : List Item} {os : List AOper} {d : Option Nat} {e : Env}
  (next : Run T Q (.ops os :: kk) (put e d (.tup [])) (σ.set y.o (clO y (hdP S)))) : Zp T Q kk os d e σ false i_Xq26 [.ptr h 1 0, .ptr x.o 3 0] := by
 unfold Zp
 rw [ZS T_Xq26 (by simp), Za Xq26.main.eq_1]
 have hl := Znm (x := x) (S := S) (R := fun v σ' => Run T Q (.ops os :: kk) (put e d v) σ') P y hC hn next
 simp (maxSteps := 2000000) only [go_sem, ↓reduceIte, Nat.reduceLT, Nat.reduceEqDiff, Nat.reduceLeDiff, Nat.reduceAdd, Nat.reduceSub, Nat.reduceMul, Int.reduceLT, Int.reduceLE, Int.reduceEq, Int.reduceNeg, hh]
 exact hl
abbrev Zav (c x : Cl) : Cl := ⟨c.o, c.q, c.g ++ x.g, c.nm + x.nm⟩
theorem Zpb (A : List Cl) (c : Cl) : ∀ (B : List Cl), ∃ P y, A ++ c :: B = P ++ [y] := by
 intro B
 rcases List.eq_nil_or_concat B with rfl | ⟨B, y, rfl⟩
 ·exact ⟨A, c, rfl⟩
 ·exact ⟨A ++ c :: B, y, by simp⟩
def ZuC (L : List Cl) (σ σ' : Sto) : Prop := σ'.length = σ.length ∧ ∀ i, i ∉ ids L → σ'[i]? = σ[i]?
theorem Znk {σ : Sto} {h : Nat} {A B S : List Cl} {c x : Cl} (hs : Stand σ h (A ++ c :: (B ++ x :: S))) (hl : c.g.length + x.g.length ≤ 1000000) (hnm : c.nm + x.nm < 9000000000000000000) :
  (∀ {Q : Zg} {kk : List Item} {os : List AOper} {d : Option Nat} {e : Env}, Run T Q (.ops os :: kk) (put e d (.tup [])) ((σ.set c.q (gO (c.g ++ x.g))).set c.o (clO (Zav c x) (hdP (B ++ x :: S)))) → Zp T Q kk os d e σ false i_Xq24 [.ptr c.o 3 0, .ptr x.o 3 0]) ∧
  ∃ σ2, (∀ {Q : Zg} {kk : List Item} {os : List AOper} {d : Option Nat} {e : Env}, Run T Q (.ops os :: kk) (put e d (.tup [])) σ2 → Zp T Q kk os d e ((σ.set c.q (gO (c.g ++ x.g))).set c.o (clO (Zav c x) (hdP (B ++ x :: S)))) false i_Xq26 [.ptr h 1 0, .ptr x.o 3 0]) ∧
   Stand σ2 h (A ++ Zav c x :: (B ++ S)) ∧ ZuC (A ++ c :: (B ++ x :: S)) σ σ2 := by
 obtain ⟨hC, hh, hn⟩ := hs
 rw [List.nodup_cons] at hn
 obtain ⟨hn0, hn1⟩ := hn
 have hc := hC.at
 have hx := (Chn.at (A := A ++ c :: B) (c := x) (B := S) (σ := σ) (by simpa using hC))
 have hcm : c ∈ A ++ c :: (B ++ x :: S) := by simp
 have hxm : x ∈ A ++ c :: (B ++ x :: S) := by simp
 have hne : c.o ≠ c.q ∧ c.o ≠ x.o ∧ c.o ≠ x.q ∧ c.q ≠ x.o ∧ c.q ≠ x.q := by
  have h1 := hn1
  rw [Zal, ZM] at h1
  have h2 := (List.nodup_append.1 h1).2.1
  rw [List.nodup_cons, List.nodup_cons] at h2
  have hxm2 : x ∈ B ++ x :: S := by simp
  have m1 := Zdr hxm2
  have m2 := ZdI hxm2
  exact ⟨fun e => h2.1 (by simp [e]), fun e => h2.1 (by rw [e]; exact List.mem_cons_of_mem _ m1), fun e => h2.1 (by rw [e]; exact List.mem_cons_of_mem _ m2), fun e => h2.2.1 (by rw [e]; exact m1), fun e => h2.2.1 (by rw [e]; exact m2)⟩
 refine ⟨fun next => Znl hc.1 hc.2.1 hx.1 hx.2.1 hne.1 hne.2.1 hne.2.2.1 hne.2.2.2.1 hne.2.2.2.2 hl hnm next, ?_⟩
 have hC1 := Chn.upd (c := c) (c' := Zav c x) rfl rfl A hC hn1
 have hid : ids (A ++ Zav c x :: (B ++ x :: S)) = ids (A ++ c :: (B ++ x :: S)) := by simp only [Zal, ZM]
 rw [← hid] at hn1
 obtain ⟨P, y, hP⟩ := Zpb A (Zav c x) B
 have e1 : A ++ Zav c x :: (B ++ x :: S) = P ++ y :: x :: S := by
  have : A ++ Zav c x :: (B ++ x :: S) = (A ++ Zav c x :: B) ++ x :: S := by simp
  rw [this, hP]; simp
 have e2 : A ++ Zav c x :: (B ++ S) = P ++ y :: S := by
  have : A ++ Zav c x :: (B ++ S) = (A ++ Zav c x :: B) ++ S := by simp
  rw [this, hP]; simp
 have hho : c.o ≠ h := Zco hn0 (Zdr hcm)
 have hhq : c.q ≠ h := Zco hn0 (ZdI hcm)
 have hd1 : ((σ.set c.q (gO (c.g ++ x.g))).set c.o (clO (Zav c x) (hdP (B ++ x :: S))))[h]? = some (.cells false [hdP (P ++ y :: x :: S)]) := by
  rw [List.getElem?_set_ne hho, List.getElem?_set_ne hhq, hh, ← e1, Zga (c := c) (c' := Zav c x) rfl]
 rw [e1] at hC1 hn1
 have hym : y ∈ P ++ y :: x :: S := by simp
 have hyo : y.o ∈ ids (A ++ c :: (B ++ x :: S)) := by rw [← hid, e1]; exact Zdr hym
 have hyh : y.o ≠ h := Zco hn0 (hyo)
 refine ⟨_, fun next => Znj hd1 hC1 hn1 next, ⟨?_, ?_, ?_⟩, ?_, fun i hi => ?_⟩
 ·rw [e2]; exact Chn.cut P hC1 hn1
 ·rw [List.getElem?_set_ne hyh, hd1, e2, Zga (c := y) (c' := y) rfl]
 ·rw [e2, List.nodup_cons]
  have hsub : (ids (P ++ y :: S)).Sublist (ids (P ++ y :: x :: S)) := by
   rw [Zal, Zal]
   refine List.Sublist.append (List.Sublist.refl _) ?_
   rw [ZM, ZM, ZM]
   exact ((((List.Sublist.refl (ids S)).cons x.q).cons x.o).cons₂ y.q).cons₂ y.o
  refine ⟨fun hm => hn0 ?_, hn1.sublist hsub⟩
  rw [← hid, e1]; exact hsub.subset hm
 ·simp only [List.length_set]
 ·rw [List.getElem?_set_ne (Zco hi (hyo)), List.getElem?_set_ne (Zco hi (Zdr hcm)), List.getElem?_set_ne (Zco hi (ZdI hcm))]
end Go.Abs
/- Walks of chapter 36: groups, sums over a group. -/
set_option linter.unusedSimpArgs false
set_option linter.unusedVariables false
set_option maxRecDepth 100000
set_option maxHeartbeats 4000000
namespace Go.Abs
open Go
attribute [local go_sem_proc] Nat.reduceLT Nat.reduceEqDiff Nat.reduceLeDiff Nat.reduceAdd Nat.reduceSub Nat.reduceMul Int.reduceLT Int.reduceLE Int.reduceEq Int.reduceNeg
attribute [local go_sem_proc ↓] reduceIte

abbrev Z3 (f : SlF) (g : List Int) : AVal := sv 1 f (g.map fun i => .int .i64 i)
abbrev grA (f : SlF) (G : List (SlF × List Int)) : AVal := sv 1 f (G.map fun p => sv 1 p.1 (p.2.map fun i => .int .i64 i))
def isG (n : Nat) : Int → List Int → Bool
 | _, [] => true
 | last, i :: g => decide (last < i ∧ i < n) && isG n i g
def ZaN (n : Nat) (g : List Int) : Bool := isG n (-1) g && decide (g ≠ [])
theorem Zpo {f fg : SlF} {l : List Pc} {g : List Int} (hl : ZG l) (hg : ZG g) : ∀ k, k ≤ g.length → ∀ last : Int,
  Run T (Res [.tmp 4] (.bool (isG l.length last (g.drop k) && decide (g ≠ [])))) (.inLoop Xq35.b0 :: Xq35.k0) (mkE 28 [(0, pcA f l), (1, Z3 fg g), (5, .int .i64 last), (8, Z3 fg g), (9, .int .i64 g.length), (10, .int .i64 k)]) [] := by
 have hg1 : g.length < 9223372036854775807 := hg
 refine Zat (fun last => ?_) fun k hk ih last => ?_
 ·rw [List.drop_length, isG, Bool.true_and]
  have e : decide (g ≠ []) = decide ((0 : Int) < (g.length : Int)) := by
   cases g with
   | nil => rfl
   | cons a g =>
    have h : (0 : Int) < ((a :: g).length : Int) := by simp only [List.length_cons]; omega
    rw [decide_eq_true h]; rfl
  rw [e]
  rw [Zb, Za Xq35.b0.eq_1]
  simp (maxSteps := 2000000) only [go_sem, Za Xq35.c0.eq_1, Za Xq35.c1.eq_1, Xq35.k0, Int.lt_irrefl]
 ·have w1 := Zj (show k < 9223372036854775807 by omega)
  have ih' := ih g[k]
  rw [List.drop_eq_getElem_cons hk, isG]
  by_cases h1 : g[k] ≤ last
  ·have e : ¬ (last < g[k] ∧ g[k] < l.length) := by omega
   rw [decide_eq_false e, Bool.false_and, Bool.false_and]
   rw [Zb, Za Xq35.b0.eq_1]
   simp (maxSteps := 2000000) only [go_sem, hk, h1, Za Xq35.c0.eq_1, Za Xq35.c1.eq_1, Xq35.k0]
  ·by_cases h2 : (l.length : Int) ≤ g[k]
   ·have e : ¬ (last < g[k] ∧ g[k] < l.length) := by omega
    rw [decide_eq_false e, Bool.false_and, Bool.false_and]
    rw [Zb, Za Xq35.b0.eq_1]
    simp (maxSteps := 2000000) only [go_sem, hk, h1, h2, Za Xq35.c0.eq_1, Za Xq35.c1.eq_1, Xq35.k0]
   ·have e : last < g[k] ∧ g[k] < l.length := by omega
    rw [decide_eq_true e, Bool.true_and]
    rw [Zb, Za Xq35.b0.eq_1]
    simp (maxSteps := 2000000) only [go_sem, hk, h1, h2, w1, Za Xq35.c0.eq_1, Za Xq35.c1.eq_1, Xq35.k0]
    exact ih'
theorem Znx {f fg : SlF} {l : List Pc} {g : List Int} (hl : ZG l) (hg : ZG g) {lv : List Nat} {σ : Sto} {R : Zs} : Cw T true i_Xq35 [pcA f l, Z3 fg g] lv σ R ↔ R (.bool (ZaN l.length g)) σ := by
 refine Zt T_Xq35 (by simp only [go_sem]) (by simp) ?_; rw [Za Xq35.main.eq_1]
 have h := Zpo (f := f) (fg := fg) hl hg 0 (by omega) (-1)
 simp only [List.drop_zero] at h
 simp (maxSteps := 2000000) only [go_sem]
 exact h
@[go_sem] theorem Zid {f fg : SlF} {l : List Pc} {g : List Int} (hl : ZG l) (hg : ZG g) {Q : Zg} {k : List Item} {os : List AOper} {d : Option Nat} {e : Env} {σ : Sto} : Zp T Q k os d e σ true i_Xq35 [pcA f l, Z3 fg g] ↔ Run T Q (.ops os :: k) (put e d (.bool (ZaN l.length g))) σ := Znx hl hg

theorem ZbC {n : Nat} : ∀ {g : List Int} {last : Int}, isG n last g = true → ∀ i ∈ g, last < i ∧ i < n
 | [], _, _, i, h => by simp at h
 | j :: g, last, h, i, hi => by
  rw [isG, Bool.and_eq_true, decide_eq_true_eq] at h
  rcases List.mem_cons.1 hi with rfl | hi
  ·exact h.1
  ·have := ZbC h.2 i hi
   omega
theorem Zfj {n : Nat} : ∀ {g : List Int} {last : Int}, isG n last g = true → -1 ≤ last → (g.length : Int) + last < n ∨ g = []
 | [], _, _, _ => .inr rfl
 | j :: g, last, h, hl => by
  rw [isG, Bool.and_eq_true, decide_eq_true_eq] at h
  rcases Zfj h.2 (by omega) with h1 | rfl
  ·left; simp only [List.length_cons]; omega
  ·left; simp only [List.length_cons, List.length_nil]; omega

def pAt (l : List Pc) (i : Int) : Pc := l.getD i.toNat ⟨0, 0⟩
theorem Zfk {l : List Pc} {i : Int} (h : 0 ≤ i ∧ i < l.length) : l[i.toNat]'(by omega) = pAt l i := by
 unfold pAt
 rw [List.getD_eq_getElem?_getD, List.getElem?_eq_getElem (by omega)]; rfl
def ZaO (v : Pc → Int) (l : List Pc) (g : List Int) : Int := (g.map fun i => v (pAt l i)).sum
theorem Zcf {v : Pc → Int} {l : List Pc} {i : Int} {g : List Int} : ZaO v l (i :: g) = v (pAt l i) + ZaO v l g := by simp only [ZaO, List.map_cons, List.sum_cons]
theorem Zny {f : SlF} {l : List Pc} {i : Int} (h : 0 ≤ i ∧ i < l.length) {lv : List Nat} {σ : Sto} {R : Zs} : Cw T true i_Xq37 [.int .i64 i, .fptr [pcA f l]] lv σ R ↔ R (.int .i64 (pAt l i).n) σ := by
 refine Zt T_Xq37 (by simp only [go_sem]) (by simp) ?_; rw [Za Xq37.main.eq_1]
 have a1 := fun {σ : Sto} => @Zeq σ 2 f Pc (fun p => .agg [.int .i64 p.n, .int .i64 p.b]) l .i64 i h.1 (by omega)
 simp only [Zfk h] at a1
 simp (maxSteps := 2000000) only [go_sem, a1]
@[go_sem] theorem ZnC {f : SlF} {l : List Pc} {i : Int} (h : 0 ≤ i ∧ i < l.length) {Q : Zg} {k : List Item} {os : List AOper} {d : Option Nat} {e : Env} {σ : Sto} : Zp T Q k os d e σ true i_Xq37 [.int .i64 i, .fptr [pcA f l]] ↔ Run T Q (.ops os :: k) (put e d (.int .i64 (pAt l i).n)) σ := Zny h

theorem Znz {f : SlF} {l : List Pc} {i : Int} (h : 0 ≤ i ∧ i < l.length) {lv : List Nat} {σ : Sto} {R : Zs} : Cw T true i_Xq39 [.int .i64 i, .fptr [pcA f l]] lv σ R ↔ R (.int .i64 (pAt l i).b) σ := by
 refine Zt T_Xq39 (by simp only [go_sem]) (by simp) ?_; rw [Za Xq39.main.eq_1]
 have a1 := fun {σ : Sto} => @Zeq σ 2 f Pc (fun p => .agg [.int .i64 p.n, .int .i64 p.b]) l .i64 i h.1 (by omega)
 simp only [Zfk h] at a1
 simp (maxSteps := 2000000) only [go_sem, a1]
@[go_sem] theorem ZnD {f : SlF} {l : List Pc} {i : Int} (h : 0 ≤ i ∧ i < l.length) {Q : Zg} {k : List Item} {os : List AOper} {d : Option Nat} {e : Env} {σ : Sto} : Zp T Q k os d e σ true i_Xq39 [.int .i64 i, .fptr [pcA f l]] ↔ Run T Q (.ops os :: k) (put e d (.int .i64 (pAt l i).b)) σ := Znz h

abbrev Zsh (f : SlF) (l : List Pc) : AVal := .clo (.func i_Xq37) [] [.fptr [pcA f l]]
abbrev Zsi (f : SlF) (l : List Pc) : AVal := .clo (.func i_Xq39) [] [.fptr [pcA f l]]
theorem Zgc {l : List Pc} {i : Int} (h : 0 ≤ i ∧ i < l.length) : pAt l i ∈ l := by rw [← Zfk h]; exact List.getElem_mem _
theorem Zic {f fg : SlF} {l : List Pc} {g : List Int} {fn : FuncId} {v : Pc → Int} (hg : g.length ≤ 100000) (hi : ∀ i ∈ g, 0 ≤ i ∧ i < l.length) (hv : ∀ p ∈ l, 0 ≤ v p ∧ v p ≤ 1000000000)
  (hc : ∀ {i : Int}, 0 ≤ i ∧ i < l.length → ∀ {Q : Zg} {k : List Item} {os : List AOper} {d : Option Nat} {e : Env} {σ : Sto}, Zp T Q k os d e σ true fn [.int .i64 i, .fptr [pcA f l]] ↔ Run T Q (.ops os :: k) (put e d (.int .i64 (v (pAt l i)))) σ) :
  ∀ k, k ≤ g.length → ∀ c : Int, 0 ≤ c → c ≤ k * 1000000000 → c + ZaO v l (g.drop k) = ZaO v l g →
  Run T (Res [.tmp 4] (.int .i64 (ZaO v l g))) (.inLoop Xq33.b0 :: Xq33.k0) (mkE 21 [(1, .clo (.func fn) [] [.fptr [pcA f l]]), (5, .int .i64 c), (8, Z3 fg g), (9, .int .i64 g.length), (10, .int .i64 k)]) [] := by
 refine Zat (fun c h0 h1 e => ?_) fun k hk ih c h0 h1 e => ?_
 ·rw [List.drop_length, show ZaO v l [] = 0 from rfl, Int.add_zero] at e
  subst e
  rw [Zb, Za Xq33.b0.eq_1]
  simp (maxSteps := 2000000) only [go_sem, Za Xq33.c0.eq_1, Za Xq33.c1.eq_1, Xq33.k0, Int.lt_irrefl]
 ·rw [List.drop_eq_getElem_cons hk, Zcf] at e
  have hr := hi _ (List.getElem_mem hk)
  obtain ⟨v0, v1⟩ := hv _ (Zgc hr)
  have w1 := Zj (show k < 9223372036854775807 by omega)
  have w3 : IntKind.i64.wrap (c + v (pAt l g[k])) = c + v (pAt l g[k]) := Zi (by omega) (by omega)
  have ih' := ih (c + v (pAt l g[k])) (by omega) (by rw [Int.natCast_succ, Int.add_mul]; omega) (by rw [← e, Int.add_assoc])
  have hc' := @hc g[k] hr
  rw [Zb, Za Xq33.b0.eq_1]
  simp (maxSteps := 2000000) only [go_sem, hk, w1, w3, hc']
  exact ih'
theorem ZnA {f fg : SlF} {l : List Pc} {g : List Int} (hg : g.length ≤ 100000) (hi : ∀ i ∈ g, 0 ≤ i ∧ i < l.length) (ho : ZdE l) {lv : List Nat} {σ : Sto} {R : Zs} : Cw T true i_Xq33 [Z3 fg g, Zsh f l] lv σ R ↔ R (.int .i64 (ZaO (·.n) l g)) σ := by
 refine Zt T_Xq33 (by simp only [go_sem]) (by simp) ?_; rw [Za Xq33.main.eq_1]
 have h := Zic (f := f) (fg := fg) (v := fun p => p.n) hg hi (fun p hp => by have := ho p hp; omega) (fun h => ZnC h) 0 (by omega) 0 (by omega) (by omega) (by rw [List.drop_zero, Int.zero_add])
 simp (maxSteps := 2000000) only [go_sem]
 exact h
theorem ZnB {f fg : SlF} {l : List Pc} {g : List Int} (hg : g.length ≤ 100000) (hi : ∀ i ∈ g, 0 ≤ i ∧ i < l.length) (ho : ZdE l) {lv : List Nat} {σ : Sto} {R : Zs} : Cw T true i_Xq33 [Z3 fg g, Zsi f l] lv σ R ↔ R (.int .i64 (ZaO (·.b) l g)) σ := by
 refine Zt T_Xq33 (by simp only [go_sem]) (by simp) ?_; rw [Za Xq33.main.eq_1]
 have h := Zic (f := f) (fg := fg) (v := fun p => p.b) hg hi (fun p hp => by have := ho p hp; omega) (fun h => ZnD h) 0 (by omega) 0 (by omega) (by omega) (by rw [List.drop_zero, Int.zero_add])
 simp (maxSteps := 2000000) only [go_sem]
 exact h
end Go.Abs
/- Walks of chapter 36: the pieces after merging groups. -/
set_option linter.unusedSimpArgs false
set_option linter.unusedVariables false
set_option maxRecDepth 100000
set_option maxHeartbeats 8000000
namespace Go.Abs
open Go
attribute [local go_sem_proc] Nat.reduceLT Nat.reduceEqDiff Nat.reduceLeDiff Nat.reduceAdd Nat.reduceSub Nat.reduceMul Int.reduceLT Int.reduceLE Int.reduceEq Int.reduceNeg
attribute [local go_sem_proc ↓] reduceIte

def Zcq (g : List Int) : AVal := if g = [] then .nils else .list 1 (g.map fun i => .int .i64 i)
abbrev Zsg (W : List (List Int)) : AObj := .cells false (W.map Zcq)
theorem Zc3 {p : Nat → Bool} {g : List Int} : (Zcq g).names p = true := by
 unfold Zcq
 split
 ·rfl
 ·simp only [AVal.names]
theorem ZkZ {f : SlF} {g : List Int} (h : g ≠ []) : Z3 f g = Zcq g := by
 unfold Zcq
 rw [if_neg h]
 cases g with
 | nil => exact absurd rfl h
 | cons a g => cases f <;> rfl
theorem Zfi {b : Bool} {g : List Int} {σ : Sto} : Zgg b .sl (Zcq g) σ = some (.bool (if g = [] then !b else b), σ) := by
 unfold Zcq
 by_cases h : g = []
 ·rw [if_pos h, if_pos h]; rfl
 ·rw [if_neg h, if_neg h]; rfl
def Zf5 (g : List Int) : List (List Int) → List Int → Option (List (List Int))
 | W, [] => some W
 | W, i :: r => if W.getD i.toNat [] = [] then Zf5 g (W.set i.toNat g) r else none
def ZdL (n : Nat) : List (List Int) → List (SlF × List Int) → Option (List (List Int))
 | W, [] => some W
 | W, p :: G => if ZaN n p.2 = true then (Zf5 p.2 W p.2).bind fun W => ZdL n W G else none
theorem Zj7 {g : List Int} : ∀ {r : List Int} {W W' : List (List Int)}, Zf5 g W r = some W' → W'.length = W.length
 | [], W, W', h => by injection h with h; rw [h]
 | i :: r, W, W', h => by
  unfold Zf5 at h
  split at h
  ·rw [Zj7 h, List.length_set]
  ·cases h
def ZlG (n : Nat) (W : List (List Int)) : Prop := ∀ w ∈ W, w = [] ∨ ZaN n w = true
theorem ZlH {n : Nat} {g : List Int} (hg : ZaN n g = true) : ∀ {r : List Int} {W W' : List (List Int)}, ZlG n W → Zf5 g W r = some W' → ZlG n W'
 | [], W, W', hw, h => by injection h with h; rw [← h]; exact hw
 | i :: r, W, W', hw, h => by
  unfold Zf5 at h
  split at h
  ·refine ZlH hg (fun w hm => ?_) h
   rcases List.mem_or_eq_of_mem_set hm with hm | rfl
   ·exact hw w hm
   ·exact .inr hg
  ·cases h
abbrev Zqu : AVal := .tup [.nils, .int .i64 1]
abbrev aS (f : SlF) (l : List Pc) (W : List (List Int)) : Sto := [.cells false [pcA f l], Zsg W]
theorem ZlI {α : Type} {F : α → AVal} {W : List α} {m : Nat} {g : α} (h : m < W.length) : List.take m (W.map F) ++ [F g] ++ List.drop (m + 1) (W.map F) = (W.set m g).map F := by
 rw [List.map_set, List.set_eq_take_append_cons_drop, if_pos (by rw [List.length_map]; exact h), List.append_assoc]
 rfl
theorem Zpn {f fg : SlF} {l : List Pc} {G : List (SlF × List Int)} {g : List Int} {k : Nat} {V : AVal} {f2 : SlF} (hn : l.length ≤ 512) (hG : G.length ≤ 1000000) (hg : g.length ≤ 100000) (hk : k < G.length) (hne : g ≠ []) (hi : ∀ i ∈ g, 0 ≤ i ∧ i < l.length) : ∀ j, j ≤ g.length → ∀ W : List (List Int), W.length = l.length →
  (Zf5 g W (g.drop j) = none → V = Zqu) →
  (∀ W', Zf5 g W (g.drop j) = some W' → Run T (Res [.tmp 4, .tmp 5] V) (.inLoop Xq54.b0 :: Xq54.k0) (mkE 84 [(2, .ptr 0 1 0), (6, .ref 1 l.length 0 l.length 1), (21, grA f2 G), (22, .int .i64 G.length), (23, .int .i64 ((k + 1 : Nat) : Int))]) (aS f l W')) →
  Run T (Res [.tmp 4, .tmp 5] V) (.inLoop Xq54.b1 :: Xq54.k1) (mkE 84 [(2, .ptr 0 1 0), (6, .ref 1 l.length 0 l.length 1), (8, Z3 fg g), (21, grA f2 G), (22, .int .i64 G.length), (23, .int .i64 k), (31, Z3 fg g), (32, .int .i64 g.length), (33, .int .i64 j)]) (aS f l W) := by
 have w0 := Zj (show k < 9223372036854775807 by omega)
 refine Zat (fun W hW h1 h2 => ?_) fun j hj ih W hW h1 h2 => ?_
 ·rw [List.drop_length] at h1 h2
  have nx := h2 W rfl
  rw [Zb, Za Xq54.b1.eq_1]
  simp (maxSteps := 2000000) only [go_sem, Za Xq54.c0.eq_1, Za Xq54.c1.eq_1, Za Xq54.c2.eq_1, Za Xq54.c3.eq_1, Za Xq54.c4.eq_1, Za Xq54.c5.eq_1, Za Xq54.c6.eq_1, Xq54.k0, Xq54.k1, Xq54.k2, Int.lt_irrefl, w0]
  exact nx
 ·have w1 := Zj (show j < 9223372036854775807 by omega)
  rw [List.drop_eq_getElem_cons hj, Zf5] at h1 h2
  have hr := hi _ (List.getElem_mem hj)
  have hjg := List.getElem?_eq_getElem hj
  obtain ⟨m, hm⟩ := Int.eq_ofNat_of_zero_le hr.1
  have hml : m < l.length := by omega
  have hmW : m < W.length := by omega
  rw [hm, Int.toNat_natCast] at h1 h2
  have hgd : W.getD m [] = W[m] := by rw [List.getD_eq_getElem?_getD, List.getElem?_eq_getElem hmW]; rfl
  rw [hgd] at h1 h2
  by_cases hc : W[m] = []
  ·rw [if_pos hc] at h1 h2
   have ih' := ih (W.set m g) (by rw [List.length_set]; exact hW) h1 h2
   rw [Zb, Za Xq54.b1.eq_1]
   have hp := ZlI (F := Zcq) (g := g) hmW
   rw [← ZkZ (f := fg) hne] at hp
   simp (maxSteps := 2000000) only [go_sem, hj, hm, hW, hml, hmW, Zfi, hc, w1, List.length_map, show m + 1 ≤ l.length by omega, hp]
   exact ih'
  ·rw [if_neg hc] at h1 h2
   have hV := h1 rfl
   subst hV
   rw [Zb, Za Xq54.b1.eq_1]
   simp (maxSteps := 2000000) only [go_sem, hj, hm, hW, hml, hmW, Zfi, hc, List.length_map]

def flP (D : List Pc) : SlF := if D = [] then .nil else .lst
abbrev Znv (D : List Pc) : AObj := .cells true (D.flatMap fun p => [.int .i64 p.n, .int .i64 p.b])
theorem Zj8 (D : List Pc) : (D.flatMap fun p => [AVal.int .i64 p.n, .int .i64 p.b]).length = D.length * 2 := Zcy (k := 2) (fun _ => rfl) D
theorem Zib {n o : Nat} {σ : Sto} {D : List Pc} (hσ : σ[o]? = some (Znv D)) : Zn σ (n + 2) (pcR o D) = some (pcA (flP D) D) := by
 have h0 : (pcR o D).pure = false := by simp [AVal.names]
 have hl := Zj8 D
 have hp : AVal.pures (D.flatMap fun p => [AVal.int .i64 p.n, .int .i64 p.b]) = true := ZaF (fun _ => rfl) D
 rw [Zn, h0]
 have hc := ZjK (l := D)
 simp only [Bool.false_eq_true, if_false, hσ, hl, Nat.zero_add, Nat.le_refl, Nat.zero_lt_succ, and_self, if_true, Bool.true_and, List.drop_zero]
 rw [List.take_of_length_le (by rw [hl]; exact Nat.le_refl _), Zbh hp]
 unfold flP
 cases D with
 | nil => rfl
 | cons d D =>
  have e : pcA .lst (d :: D) = pcA (.lst) (d :: D) := rfl
  rw [pcA, sv_lst] at hc
  simp only [List.length_cons] at hc
  simp [hc, pcA, sv_lst]
  injection hc with _ h
theorem ZiW {o o' : Nat} {σ : Sto} {X : List Pc} {n b : Int} (hσ : σ[o]? = some (Znv X)) (hσ' : σ[o']? = some (.cells false [.int .i64 n, .int .i64 b])) (hb : X.length ≤ 1000000) :
  Zbv 2 16 (pcR o X) (.ref o' 2 0 1 2) σ = some (pcR o (X ++ [⟨n, b⟩]), σ.set o (Znv (X ++ [⟨n, b⟩]))) := by
 have h := Zcc (σ := σ) (x := .ref o' 2 0 1 2) (o := o) (k := 2) (m := 1) (bytes := 16) (gen := X.length * 2) (len := X.length) (nl := true) (new := [.int .i64 n, .int .i64 b]) hσ (by simp [Zai, hσ']) (Zj8 X) rfl rfl (by decide) rfl (by simp only [Zm]; omega)
 rw [h]
 simp only [pcR, Znv, List.length_append, List.length_cons, List.length_nil, List.flatMap_append, List.flatMap_cons, List.flatMap_nil, List.append_nil, Nat.add_mul, Nat.zero_add, Nat.one_mul]
def Zdn (l : List Pc) : List Pc → List (List Int) → Nat → List Pc
 | p :: ps, g :: ws, i => (if g = [] then [p] else if g.getD 0 0 = (i : Int) then [⟨ZaO (·.n) l g, ZaO (·.b) l g⟩] else []) ++ Zdn l ps ws (i + 1)
 | _, _, _ => []
theorem ZdV {σ : Sto} {fn : Fn} {v : AVal} (hv : v.pure = true) (hσ : σ[0]? = some (.cells false [v])) : Zn σ 64 (.clo fn [] [.ptr 0 1 0]) = some (.clo fn [] [.fptr [v]]) := by
 have h0 : (AVal.clo fn [] [.ptr 0 1 0]).pure = false := by simp [AVal.names, AVal.namesL]
 have h1 : (AVal.ptr 0 1 0).pure = false := by simp [AVal.names]
 have hp : Zn σ 63 (.ptr 0 1 0) = some (.fptr [v]) := by
  rw [Zn, h1]
  have hm : [v].mapM (Zn σ (61 + 1)) = some [v] := Zbh (by simp only [AVal.namesL, hv, Bool.true_and])
  simp only [Bool.false_eq_true, if_false, hσ, List.length_cons, List.length_nil, Nat.zero_add, if_true, List.drop_zero, hm, Option.map_some]
 rw [Zn, h0]
 simp only [Bool.false_eq_true, if_false, List.mapM_nil, List.mapM_cons, hp, Option.pure_def, Option.bind_eq_bind, Option.bind_some]
theorem Znw {f : SlF} {l : List Pc} {W : List (List Int)} {O : List Pc} (hn : l.length ≤ 512) (ho : ZdE l) (hW : W.length = l.length) (hown : ZlG l.length W) (hO : O.length ≤ 1000) : ∀ i, i ≤ l.length → ∀ D, D ++ Zdn l (l.drop i) (W.drop i) i = O →
  Run T (Res [.tmp 4, .tmp 5] (.tup [pcA (flP O) O, .int .i64 0])) (.inLoop Xq54.b2 :: Xq54.k2) (mkE 84 [(2, .ptr 0 1 0), (6, .ref 1 l.length 0 l.length 1), (11, pcR 2 D), (48, pcA f l), (49, .int .i64 l.length), (50, .int .i64 i)]) [.cells false [pcA f l], Zsg W, Znv D] := by
 refine Zat (fun D e => ?_) fun i hi ih D e => ?_
 ·rw [List.drop_length, show Zdn l [] (W.drop l.length) l.length = [] from by cases W.drop l.length <;> rfl, List.append_nil] at e
  subst e
  rw [Zb, Za Xq54.b2.eq_1]
  simp (maxSteps := 2000000) only [go_sem, Za Xq54.c0.eq_1, Za Xq54.c1.eq_1, Za Xq54.c2.eq_1, Za Xq54.c3.eq_1, Za Xq54.c4.eq_1, Za Xq54.c5.eq_1, Za Xq54.c6.eq_1, Xq54.k0, Xq54.k1, Xq54.k2, Int.lt_irrefl]
  rw [Zib (n := 61) (o := 2) (D := D) rfl]
  rfl
 ·have hiW : i < W.length := by omega
  rw [List.drop_eq_getElem_cons hi, List.drop_eq_getElem_cons hiW, Zdn] at e
  have w1 := Zj (show i < 9223372036854775807 by omega)
  have hD : D.length ≤ 1000 := by have := congrArg List.length e; simp only [List.length_append] at this; omega
  have i0 : ∀ {g : List Int} {σ : Sto}, g ≠ [] → ZbG 1 (Zcq g) (.int .i64 0) σ = some (.fptr [.int .i64 (g.getD 0 0)], σ) := by
   intro g σ h
   rw [← ZkZ (f := .lst) h]
   cases g with
   | nil => exact absurd rfl h
   | cons a g => exact ZhP (i := 0) (f := .lst) (xs := (a :: g).map fun i => .int .i64 i) rfl
  have hu : ∀ D : List Pc, (AVal.unders 3 (W.map Zcq) && AVal.unders 3 (D.flatMap fun p => [AVal.int .i64 p.n, .int .i64 p.b])) = true := fun D => by rw [show AVal.unders 3 (W.map Zcq) = true from Zb3 (fun _ => Zc3) W, show AVal.unders 3 (D.flatMap fun p => [AVal.int .i64 p.n, .int .i64 p.b]) = true from ZaF (fun _ => rfl) D]; rfl
  by_cases hg : W[i] = []
  ·rw [if_pos hg] at e
   have ih' := ih (D ++ [l[i]]) (by rw [← e, List.append_assoc])
   rw [Zb, Za Xq54.b2.eq_1]
   simp (maxSteps := 2000000) only [go_sem, hi, hW, hiW, Zfi, hg, List.length_map]
   rw [ZiW (X := D) rfl rfl (by omega)]
   simp (maxSteps := 2000000) only [go_sem, w1, Za Xq54.c0.eq_1, Za Xq54.c1.eq_1, Za Xq54.c2.eq_1, Za Xq54.c3.eq_1, Za Xq54.c4.eq_1, Za Xq54.c5.eq_1, Za Xq54.c6.eq_1, Xq54.k0, Xq54.k1, Xq54.k2]
   exact ⟨hu _, ih'⟩
  ·rw [if_neg hg] at e
   by_cases hh : W[i].getD 0 0 = (i : Int)
   ·rw [if_pos hh] at e
    have ih' := ih (D ++ [⟨ZaO (·.n) l W[i], ZaO (·.b) l W[i]⟩]) (by rw [← e, List.append_assoc])
    obtain ⟨m1, m2⟩ : (∀ j ∈ W[i], 0 ≤ j ∧ j < l.length) ∧ W[i].length ≤ 100000 := by
     rcases hown _ (List.getElem_mem hiW) with h | h
     ·exact absurd h hg
     ·rw [ZaN, Bool.and_eq_true] at h
      refine ⟨fun j hj => ?_, ?_⟩
      ·have := ZbC h.1 j hj; omega
      ·rcases Zfj h.1 (by omega) with h | h
       ·omega
       ·exact absurd h hg
    have s1 := fun {lv : List Nat} {σ : Sto} {R : Zs} => ZnA (f := f) (fg := .lst) m2 m1 ho (lv := lv) (σ := σ) (R := R)
    have s2 := fun {lv : List Nat} {σ : Sto} {R : Zs} => ZnB (f := f) (fg := .lst) m2 m1 ho (lv := lv) (σ := σ) (R := R)
    rw [ZkZ hg] at s1 s2
    have sn : ∀ {σ : Sto}, Zn σ Zh (Zcq W[i]) = some (Zcq W[i]) := fun {σ} => Zbg Zc3
    have pu : AVal.pures [Zcq W[i], Zsh f l] = true := by simp only [AVal.namesL, Zc3, Bool.true_and]; simp (maxSteps := 2000000) only [go_sem]
    have pu2 : AVal.pures [Zcq W[i], Zsi f l] = true := by simp only [AVal.namesL, Zc3, Bool.true_and]; simp (maxSteps := 2000000) only [go_sem]
    rw [Zb, Za Xq54.b2.eq_1]
    simp (maxSteps := 2000000) only [go_sem, hi, hW, hiW, Zfi, hg, List.length_map, i0 hg, hh]
    refine (Zbi T_Xq33 (as := [Zcq W[i], Zsh f l]) s1 ?_ pu rfl).2 ?_
    ·simp (maxSteps := 2000000) only [go_sem]
     rw [show ∀ σ : Sto, Zn σ 64 (Zcq W[i]) = some (Zcq W[i]) from fun σ => Zbg Zc3, ZdV Zde rfl]
    simp (maxSteps := 2000000) only [go_sem]
    refine (Zbi T_Xq33 (as := [Zcq W[i], Zsi f l]) s2 ?_ pu2 rfl).2 ?_
    ·simp (maxSteps := 2000000) only [go_sem]
     rw [show ∀ σ : Sto, Zn σ 64 (Zcq W[i]) = some (Zcq W[i]) from fun σ => Zbg Zc3, ZdV Zde rfl]
    simp (maxSteps := 2000000) only [go_sem]
    rw [ZiW (X := D) rfl rfl (by omega)]
    simp (maxSteps := 2000000) only [go_sem, w1, Za Xq54.c0.eq_1, Za Xq54.c1.eq_1, Za Xq54.c2.eq_1, Za Xq54.c3.eq_1, Za Xq54.c4.eq_1, Za Xq54.c5.eq_1, Za Xq54.c6.eq_1, Xq54.k0, Xq54.k1, Xq54.k2]
    exact ⟨hu _, ih'⟩
   ·rw [if_neg hh, List.nil_append] at e
    have ih' := ih D e
    rw [Zb, Za Xq54.b2.eq_1]
    simp (maxSteps := 2000000) only [go_sem, hi, hW, hiW, Zfi, hg, List.length_map, i0 hg, hh, w1, Za Xq54.c0.eq_1, Za Xq54.c1.eq_1, Za Xq54.c2.eq_1, Za Xq54.c3.eq_1, Za Xq54.c4.eq_1, Za Xq54.c5.eq_1, Za Xq54.c6.eq_1, Xq54.k0, Xq54.k1, Xq54.k2]
    exact ⟨hu _, ih'⟩
end Go.Abs
/- Walks of chapter 36: how many clusters each level has. -/
set_option linter.unusedSimpArgs false
set_option linter.unusedVariables false
set_option maxRecDepth 100000
set_option maxHeartbeats 4000000
namespace Go.Abs
open Go
attribute [local go_sem_proc] Nat.reduceLT Nat.reduceEqDiff Nat.reduceLeDiff Nat.reduceAdd Nat.reduceSub Nat.reduceMul Int.reduceLT Int.reduceLE Int.reduceEq Int.reduceNeg
attribute [local go_sem_proc ↓] reduceIte

theorem Znh {n : Int} {lv : List Nat} {σ : Sto} {R : Zs} : Cw T true i_Xq22 [.int .i64 n] lv σ R ↔ R (.bool (decide (4 ≤ n))) σ := by
 refine Zt T_Xq22 (by simp only [go_sem]) (by simp) ?_; rw [Za Xq22.main.eq_1]
 simp (maxSteps := 2000000) only [go_sem]
@[go_sem] theorem Zni {n : Int} {Q : Zg} {k : List Item} {os : List AOper} {d : Option Nat} {e : Env} {σ : Sto} : Zp T Q k os d e σ true i_Xq22 [.int .i64 n] ↔ Run T Q (.ops os :: k) (put e d (.bool (decide (4 ≤ n)))) σ := Znh

abbrev Zj1 : AVal := .clo (.func i_Xq22) [] []
def ix4 : List Int → Nat → Int
 | [], _ => -1
 | n :: r, i => if 4 ≤ n then (i : Int) else ix4 r (i + 1)
theorem Zo8 {f : SlF} {g : List Int} (hg : ZG g) : ∀ i, i ≤ g.length →
  Run T (Res [.tmp 4] (.int .i64 (ix4 (g.drop i) i))) (.inLoop Xq20.b0 :: Xq20.k0) (mkE 19 [(0, Z3 f g), (1, Zj1), (7, .int .i64 g.length), (8, .int .i64 i)]) [] := by
 refine Zat ?_ fun i hi ih => ?_
 ·rw [Zb, Za Xq20.b0.eq_1]
  simp (maxSteps := 2000000) only [go_sem, Za Xq20.c0.eq_1, Za Xq20.c1.eq_1, Xq20.k0, Int.lt_irrefl, List.drop_length, ix4]
 ·have w1 := Zj (show i < 9223372036854775807 by have : g.length < _ := hg; omega)
  rw [List.drop_eq_getElem_cons hi, ix4]
  have hc := @Zni g[i]
  rw [Zb, Za Xq20.b0.eq_1]
  by_cases h : 4 ≤ g[i]
  ·rw [if_pos h]
   simp (maxSteps := 2000000) only [go_sem, hi, hc, h, decide_true]
  ·rw [if_neg h]
   simp (maxSteps := 2000000) only [go_sem, hi, hc, h, decide_false, w1, Za Xq20.c0.eq_1, Za Xq20.c1.eq_1, Xq20.k0]
   exact ih
theorem ZfE {f : SlF} {g : List Int} (hg : ZG g) {lv : List Nat} {σ : Sto} {R : Zs} : Cw T true i_Xq20 [Z3 f g, Zj1] lv σ R ↔ R (.int .i64 (ix4 g 0)) σ := by
 refine Zt T_Xq20 (by simp only [go_sem]) (by simp) ?_; rw [Za Xq20.main.eq_1]
 have h := Zo8 (f := f) hg 0 (by omega)
 simp only [List.drop_zero] at h
 simp (maxSteps := 2000000) only [go_sem]
 exact h
@[go_sem] theorem Ztq {f : SlF} {g : List Int} (hg : ZG g) {Q : Zg} {k : List Item} {os : List AOper} {d : Option Nat} {e : Env} {σ : Sto} : Zp T Q k os d e σ true i_Xq20 [Z3 f g, Zj1] ↔ Run T Q (.ops os :: k) (put e d (.int .i64 (ix4 g 0))) σ := ZfE hg

theorem Zlx : ∀ {g : List Int} {i : Nat}, ix4 g i < 0 → ∀ n ∈ g, n < 4
 | [], _, _, n, h => by simp at h
 | m :: g, i, h, n, hn => by
  unfold ix4 at h
  split at h
  ·omega
  ·rcases List.mem_cons.1 hn with rfl | hn
   ·omega
   ·exact Zlx h n hn
theorem Zly : ∀ {g : List Int} {i : Nat}, ¬ ix4 g i < 0 → ∃ k, k < g.length ∧ ix4 g i = ((i + k : Nat) : Int) ∧ 4 ≤ g.getD k 0 ∧ ∀ j, j < k → g.getD j 0 < 4
 | [], i, h => by simp [ix4] at h
 | m :: g, i, h => by
  unfold ix4 at h ⊢
  split
  ·rename_i hm
   exact ⟨0, by simp, rfl, hm, fun j hj => by omega⟩
  ·rename_i hm
   rw [if_neg hm] at h
   obtain ⟨k, h1, h2, h3, h4⟩ := Zly h
   refine ⟨k + 1, by simp; omega, by rw [h2]; omega, h3, fun j hj => ?_⟩
   cases j with
   | zero => show m < 4; omega
   | succ j => exact h4 j (by omega)

structure Sized (L : List Cl) : Prop where
 pos : ∀ c ∈ L, 1 ≤ c.nm
 tot : (L.map (·.nm)).sum ≤ 16000000
 len : (L.map (·.g.length)).sum ≤ 100000
theorem Zlz {α : Type} {f : α → Nat} : ∀ {L : List α} {c : α}, c ∈ L → f c ≤ (L.map f).sum
 | d :: L, c, h => by
  simp only [List.map_cons, List.sum_cons]
  rcases List.mem_cons.1 h with rfl | h
  ·omega
  ·have := Zlz (f := f) h; omega
theorem Sized.lev {L : List Cl} (h : Sized L) {c : Cl} (hc : c ∈ L) : 0 ≤ lev c.nm ∧ lev c.nm < 12 ∧ c.nm ≤ 16000000 := by
 have h1 := h.pos c hc
 have h2 := Zlz (f := fun c : Cl => c.nm) hc
 have h3 := h.tot
 refine ⟨?_, Zr7 (k := 12) (by omega), by omega⟩
 rw [Zgb (by omega)]
 have := (Zqk (c.nm / 4)).1
 omega
def atL (L : List Cl) (k : Nat) : List Cl := L.filter fun c => decide (Go.Abs.lev c.nm = (k : Int))
theorem ZuB {o g k : Nat} {σ : Sto} (h : k < 16) : Zcr 16 1 (.ptr o g 0) (.int .i64 (k : Int)) σ = some (.ptr o g k, σ) := by
 have : Zbn (.int .i64 (k : Int)) = some k := ZdS
 simp only [Zcr, this, if_pos h, Nat.zero_add, Nat.mul_one]
theorem Zo9 {c : Cl} {L : List Cl} {j : Nat} : (atL (c :: L) j).length = (atL L j).length + if Go.Abs.lev c.nm = (j : Int) then 1 else 0 := by
 unfold atL
 by_cases h : Go.Abs.lev c.nm = (j : Int)
 ·rw [List.filter_cons_of_pos (by simp [h]), if_pos h]; rfl
 ·rw [List.filter_cons_of_neg (by simp [h]), if_neg h]; rfl
theorem Sized.length {L : List Cl} (h : Sized L) : L.length ≤ 16000000 := by
 have h1 : ∀ M : List Cl, (∀ c ∈ M, 1 ≤ c.nm) → M.length ≤ (M.map (·.nm)).sum := by
  intro M
  induction M with
  | nil => intro _; simp
  | cons c M ih =>
   intro hp
   have := ih fun d hd => hp d (List.mem_cons_of_mem _ hd)
   have := hp c List.mem_cons_self
   simp only [List.length_cons, List.map_cons, List.sum_cons]; omega
 exact Nat.le_trans (h1 L h.pos) h.tot
theorem Zpa {σ : Sto} {h m : Nat} {L : List Cl} {Q : Zg} (hm : m = σ.length) (hlt : ∀ i ∈ ids L, i < m) (hz : Sized L) :
  ∀ (rest pre : List Cl), pre ++ rest = L → Chn σ rest → ∀ C : List Int, C.length = 16 → (∀ k, k < 16 → C.getD k 0 + ((atL rest k).length : Int) = ((atL L k).length : Int)) →
  (∀ C : List Int, C.length = 16 → (∀ k, k < 16 → C.getD k 0 = ((atL L k).length : Int)) → Run T Q [.code (.ghost (.kill [4, 15])), .code Xq25.c4] (mkE 69 [(0, .ptr h 1 0), (3, .ptr m 16 0), (4, .nilp), (15, .bool false)]) (σ ++ [.cells false (C.map fun n => .int .i64 n)])) →
  Run T Q (.inLoop Xq25.b0 :: Xq25.k0) (mkE 69 [(0, .ptr h 1 0), (3, .ptr m 16 0), (4, hdP rest)]) (σ ++ [.cells false (C.map fun n => .int .i64 n)]) := by
 intro rest
 induction rest with
 | nil =>
  intro pre hp hC C hl hc next
  have nx := next C hl fun k hk => by have := hc k hk; simpa [atL] using this
  rw [Zb, Za Xq25.b0.eq_1]
  simp (maxSteps := 2000000) only [go_sem, hdP, Xq25.k0]
  exact nx
 | cons c rest ih =>
  intro pre hp hC C hl hc next
  obtain ⟨h1, h2, h3⟩ := hC
  have hcm : c ∈ L := by rw [← hp]; simp
  obtain ⟨l0, l1, l2⟩ := hz.lev hcm
  have hco : c.o < σ.length := by rw [← hm]; exact hlt _ (Zdr hcm)
  have g1 : ∀ E, (σ ++ E)[c.o]? = some (clO c (hdP rest)) := fun E => by rw [List.getElem?_append_left hco]; exact h1
  obtain ⟨k, hk⟩ := Int.eq_ofNat_of_zero_le l0
  have hk16 : k < 16 := by omega
  have hkC : k < C.length := by omega
  rw [Zb, Za Xq25.b0.eq_1]
  simp (maxSteps := 2000000) only [go_sem, Zbd]
  refine ZeC (nx := hdP rest) (g1 _) (by omega) ?_
  have hcnt := hc k hk16
  have hle : (atL L k).length ≤ L.length := List.length_filter_le ..
  have hLl := hz.length
  have hge : 0 ≤ C.getD k 0 := by
   have e : (atL L k).length = (atL pre k).length + (atL (c :: rest) k).length := by rw [← hp, atL, List.filter_append, List.length_append]; rfl
   omega
  rw [List.getD_eq_getElem?_getD, List.getElem?_eq_getElem hkC, Option.getD_some] at hcnt hge
  have w1 : IntKind.i64.wrap (C[k] + 1) = C[k] + 1 := Zi (by omega) (by omega)
  have gl : ∀ X : AObj, (σ ++ [X])[σ.length]? = some X := fun X => ZgS
  have hput := ZlI (F := fun n : Int => AVal.int .i64 n) (g := C[k] + 1) hkC
  have ih' := ih (pre ++ [c]) (by rw [List.append_assoc]; exact hp) h3 (C.set k (C[k] + 1)) (by rw [List.length_set]; exact hl) (fun j hj => by
   have h0 := hc j hj
   rw [Zo9, hk] at h0
   rw [List.getD_eq_getElem?_getD, List.getElem?_set]
   by_cases e : k = j
   ·subst e
    rw [if_pos rfl, if_pos hkC, Option.getD_some]
    rw [List.getD_eq_getElem?_getD, List.getElem?_eq_getElem hkC, Option.getD_some, if_pos rfl] at h0
    omega
   ·have hne : ¬ ((k : Int) = (j : Int)) := by omega
    rw [if_neg e, ← List.getD_eq_getElem?_getD]
    rw [if_neg hne] at h0
    omega) next
  rw [hm] at ih'
  have hdr : List.drop k (List.map (fun n => AVal.int .i64 n) C) = .int .i64 C[k] :: List.drop (k + 1) (List.map (fun n => AVal.int .i64 n) C) := by
   rw [List.drop_eq_getElem_cons (by rw [List.length_map]; exact hkC), List.getElem_map]
  simp (maxSteps := 2000000) only [go_sem, hk, hm]
  rw [ZuB hk16]
  simp (maxSteps := 2000000) only [go_sem, gl, hl, hkC, List.length_map, hdr]
  rw [ZuB hk16]
  simp (maxSteps := 2000000) only [go_sem, gl, hl, hkC, List.length_map, w1, ZgT, hput, g1, show k + 1 ≤ 16 by omega]
  exact ih'
end Go.Abs
/- Walks of chapter 36: a step of the choice. -/
set_option linter.unusedSimpArgs false
set_option linter.unusedVariables false
set_option maxRecDepth 100000
set_option maxHeartbeats 4000000
namespace Go.Abs
open Go
attribute [local go_sem_proc] Nat.reduceLT Nat.reduceEqDiff Nat.reduceLeDiff Nat.reduceAdd Nat.reduceSub Nat.reduceMul Int.reduceLT Int.reduceLE Int.reduceEq Int.reduceNeg
attribute [local go_sem_proc ↓] reduceIte

abbrev ptO (X : List Cl) : AObj := .cells true (X.map fun c => .ptr c.o 3 0)
theorem Zqi {σ E : Sto} {a b : AObj} : (σ ++ a :: E).set σ.length b = σ ++ b :: E := by
 rw [List.set_append_right _ _ (Nat.le_refl _), Nat.sub_self]; rfl
theorem Zfa {σ E : Sto} {a : AObj} : (σ ++ a :: E)[σ.length]? = some a := by
 rw [List.getElem?_append_right (Nat.le_refl _), Nat.sub_self]; rfl
theorem Zo7 {σ : Sto} {h m k : Nat} {L : List Cl} {Q : Zg} (hm : m = σ.length) (hlt : ∀ i ∈ ids L, i < m) (hz : Sized L) :
  ∀ (rest pre : List Cl), pre ++ rest = L → Chn σ rest → ∀ (X : List Cl) (E : Sto), X.length ≤ 4 → X ++ (atL rest k).take (4 - X.length) = (atL L k).take 4 →
  (∀ X rest (E : Sto), X.length ≤ 4 → X = (atL L k).take 4 → Run T Q [.code (.ghost (.kill [5, 7, 40])), .code Xq25.c2] (mkE 69 [(0, .ptr h 1 0), (5, .int .i64 (k : Int)), (6, .ref m X.length 0 X.length 1), (7, hdP rest), (40, .bool false)]) (σ ++ ptO X :: E)) →
  Run T Q (.inLoop Xq25.b1 :: Xq25.k1) (mkE 69 [(0, .ptr h 1 0), (5, .int .i64 (k : Int)), (6, .ref m X.length 0 X.length 1), (7, hdP rest)]) (σ ++ ptO X :: E) := by
 intro rest
 induction rest with
 | nil =>
  intro pre hp hC X E hX hc next
  have nx := next X [] E hX (by simpa [atL] using hc)
  rw [Zb, Za Xq25.b1.eq_1]
  simp (maxSteps := 2000000) only [go_sem, hdP, Xq25.k1]
  exact nx
 | cons c rest ih =>
  intro pre hp hC X E hX hc next
  obtain ⟨h1, h2, h3⟩ := hC
  have hcm : c ∈ L := by rw [← hp]; simp
  obtain ⟨l0, l1, l2⟩ := hz.lev hcm
  have hco : c.o < σ.length := by rw [← hm]; exact hlt _ (Zdr hcm)
  have g1 : ∀ E, (σ ++ E)[c.o]? = some (clO c (hdP rest)) := fun E => by rw [List.getElem?_append_left hco]; exact h1
  have gm : ∀ (X : List Cl) (E : Sto), (σ ++ ptO X :: E)[σ.length]? = some (ptO X) := fun X E => Zfa
  subst hm
  by_cases hX4 : X.length < 4
  ·have hXi : (X.length : Int) < 4 := by omega
   obtain ⟨d, hd⟩ : ∃ d, 4 - X.length = d + 1 := ⟨3 - X.length, by omega⟩
   have hd' : 4 - (X.length + 1) = d := by omega
   by_cases hk : Go.Abs.lev c.nm = (k : Int)
   ·have hat : atL (c :: rest) k = c :: atL rest k := by unfold atL; rw [List.filter_cons_of_pos (by simp [hk])]
    rw [Zb, Za Xq25.b1.eq_1]
    simp (maxSteps := 2000000) only [go_sem, Zbd, gm, List.length_map, hXi, decide_true]
    refine ZeC (nx := hdP rest) (g1 _) (by omega) ?_
    simp (maxSteps := 2000000) only [go_sem, hk, decide_true]
    have gz : ∀ E' : Sto, (σ ++ ptO X :: E ++ E')[c.o]? = some (clO c (hdP rest)) := fun E' => by rw [List.append_assoc]; exact g1 _
    have ih' := ih (pre ++ [c]) (by rw [List.append_assoc]; exact hp) h3 (X ++ [c]) (E ++ [.cells false [.ptr c.o 3 0]]) (by simp; omega) (by
     rw [List.append_assoc, List.length_append, List.length_singleton, hd', List.singleton_append, ← hc, hat, hd, List.take_succ_cons]) next
    have ee : (σ ++ ptO X :: E ++ [AObj.cells false [.ptr c.o 3 0]]).set σ.length (AObj.cells true (X.map (fun c : Cl => AVal.ptr c.o 3 0) ++ [AVal.ptr c.o 3 0])) = σ ++ ptO (X ++ [c]) :: (E ++ [.cells false [.ptr c.o 3 0]]) := by
     rw [List.append_assoc, List.cons_append, Zqi]; simp only [ptO, List.map_append, List.map_cons, List.map_nil]
    rw [List.length_append, List.length_singleton] at ih'
    rw [Zdd (o' := (σ ++ ptO X :: E).length) (nl' := false) (v := .ptr c.o 3 0) (cs := X.map fun c => .ptr c.o 3 0) (by rw [List.append_assoc]; exact Zfa) (by simp) (List.length_map ..) rfl (by simp only [Zm]; omega), ee]
    simp (maxSteps := 2000000) only [go_sem, Xq25.c3, g1]
    exact ih'
   ·have hat : atL (c :: rest) k = atL rest k := by unfold atL; rw [List.filter_cons_of_neg (by simp [hk])]
    have ih' := ih (pre ++ [c]) (by rw [List.append_assoc]; exact hp) h3 X E hX (by rw [← hat]; exact hc) next
    rw [Zb, Za Xq25.b1.eq_1]
    simp (maxSteps := 2000000) only [go_sem, Zbd, gm, List.length_map, hXi, decide_true]
    refine ZeC (nx := hdP rest) (g1 _) (by omega) ?_
    simp (maxSteps := 2000000) only [go_sem, hk, decide_false, Xq25.c3, g1]
    exact ih'
  ·have hXi : ¬ (X.length : Int) < 4 := by omega
   have nx := next X (c :: rest) E hX (by
    have : 4 - X.length = 0 := by omega
    rw [this] at hc; simpa using hc)
   rw [Zb, Za Xq25.b1.eq_1]
   simp (maxSteps := 2000000) only [go_sem, Zbd, gm, List.length_map, hXi, decide_false, Xq25.k1]
   exact nx
end Go.Abs
/- Walks of chapter 36: the rounds that join four clusters. -/
set_option linter.unusedSimpArgs false
set_option linter.unusedVariables false
set_option maxRecDepth 100000
set_option maxHeartbeats 4000000
namespace Go.Abs
open Go
attribute [local go_sem_proc] Nat.reduceLT Nat.reduceEqDiff Nat.reduceLeDiff Nat.reduceAdd Nat.reduceSub Nat.reduceMul Int.reduceLT Int.reduceLE Int.reduceEq Int.reduceNeg
attribute [local go_sem_proc ↓] reduceIte

theorem ZeB {σ : Sto} {h m i : Nat} {A B S X : List Cl} {c x : Cl} {Q : Zg} (hi : i < 3) (hs : Stand σ h (A ++ c :: (B ++ x :: S))) (hl : c.g.length + x.g.length ≤ 1000000) (hnm : c.nm + x.nm < 9000000000000000000)
  (hm : m ∉ ids (A ++ c :: (B ++ x :: S))) (hX : σ[m]? = some (ptO X)) (hX4 : X.length = 4) (h0 : (X[0]'(by omega)).o = c.o) (h1 : (X[i + 1]'(by omega)).o = x.o)
  (next : ∀ σ2, Stand σ2 h (A ++ Zav c x :: (B ++ S)) → ZuC (A ++ c :: (B ++ x :: S)) σ σ2 → Run T Q (.inLoop Xq25.b2 :: Xq25.k2) (mkE 69 [(0, .ptr h 1 0), (6, .ref m 4 0 4 1), (54, .ref m 4 1 3 1), (55, .int .i64 3), (56, .int .i64 ((i + 1 : Nat) : Int))]) σ2) :
  Run T Q (.inLoop Xq25.b2 :: Xq25.k2) (mkE 69 [(0, .ptr h 1 0), (6, .ref m 4 0 4 1), (54, .ref m 4 1 3 1), (55, .int .i64 3), (56, .int .i64 (i : Int))]) σ := by
 obtain ⟨t1, σ2, d1, d2, d3⟩ := Znk hs hl hnm
 have nx := next σ2 d2 d3
 have hi3 : (i : Int) < 3 := by omega
 have hid : ((i + 1 : Nat) : Int) = (i : Int) + 1 := by omega
 have w1 := Zj (show i < 9223372036854775807 by omega)
 have e1 : List.drop (1 + i) (X.map fun c => AVal.ptr c.o 3 0) = .ptr x.o 3 0 :: List.drop (1 + i + 1) (X.map fun c => AVal.ptr c.o 3 0) := by
  rw [List.drop_eq_getElem_cons (by rw [List.length_map]; omega), List.getElem_map]
  congr 2
  rw [← h1]; congr 2; omega
 have e0 : (X.map fun c => AVal.ptr c.o 3 0) = .ptr c.o 3 0 :: List.drop 1 (X.map fun c => AVal.ptr c.o 3 0) := by
  have := List.drop_eq_getElem_cons (l := X.map fun c => AVal.ptr c.o 3 0) (i := 0) (by rw [List.length_map]; omega)
  rw [List.drop_zero, List.getElem_map, h0] at this
  exact this
 rw [Zb, Za Xq25.b2.eq_1]
 have i0 : ZbG 1 (.ref m 4 0 4 1) (.int .i64 0) σ = some (.ptr m 4 0, σ) := by
  have := ZkK (k := 1) (o := m) (gen := 4) (off := 0) (len := 4) (kd := .i64) (i := 0) (σ := σ)
  simp [hX, hX4] at this
  exact this
 simp (maxSteps := 2000000) only [go_sem, hi3, hX, List.length_map, hX4, e1, hi, if_true, i0]
 rw [e0]
 simp (maxSteps := 2000000) only [go_sem]
 refine t1 ?_
 simp (maxSteps := 2000000) only [go_sem]
 refine d1 ?_
 simp (maxSteps := 2000000) only [go_sem, w1]
 exact nx
end Go.Abs
/- Walks of chapter 36: the whole step. -/
set_option linter.unusedSimpArgs false
set_option linter.unusedVariables false
set_option maxRecDepth 100000
set_option maxHeartbeats 4000000
namespace Go.Abs
open Go
attribute [local go_sem_proc] Nat.reduceLT Nat.reduceEqDiff Nat.reduceLeDiff Nat.reduceAdd Nat.reduceSub Nat.reduceMul Int.reduceLT Int.reduceLE Int.reduceEq Int.reduceNeg
attribute [local go_sem_proc ↓] reduceIte

theorem Stand.ext {σ : Sto} {h : Nat} {L : List Cl} (hs : Stand σ h L) (E : Sto) : Stand (σ ++ E) h L := by
 obtain ⟨h1, h2, h3⟩ := hs
 have hh : h < σ.length := (List.getElem?_eq_some_iff.1 h2).1
 refine ⟨?_, by rw [List.getElem?_append_left hh]; exact h2, h3⟩
 have hl : ∀ i ∈ ids L, i < σ.length := by
  clear h2 h3 hh
  induction L with
  | nil => intro i hi; simp [ids] at hi
  | cons c L ih =>
   obtain ⟨a, b, d⟩ := h1
   intro i hi
   rw [ZM] at hi
   rcases List.mem_cons.1 hi with rfl | hi
   ·exact (List.getElem?_eq_some_iff.1 a).1
   rcases List.mem_cons.1 hi with rfl | hi
   ·exact (List.getElem?_eq_some_iff.1 b).1
   exact ih d i hi
 exact h1.congr fun i hi => List.getElem?_append_left (hl i hi)
theorem Chn.lt {σ : Sto} : ∀ {L : List Cl}, Chn σ L → ∀ i ∈ ids L, i < σ.length
 | [], _, i, hi => by simp [ids] at hi
 | c :: L, ⟨a, b, d⟩, i, hi => by
  rw [ZM] at hi
  rcases List.mem_cons.1 hi with rfl | hi
  ·exact (List.getElem?_eq_some_iff.1 a).1
  rcases List.mem_cons.1 hi with rfl | hi
  ·exact (List.getElem?_eq_some_iff.1 b).1
  exact Chn.lt d i hi
structure Four (k : Nat) (L A B1 B2 B3 S : List Cl) (c0 c1 c2 c3 : Cl) : Prop where
 eq : L = A ++ c0 :: (B1 ++ c1 :: (B2 ++ c2 :: (B3 ++ c3 :: S)))
 a : ∀ c ∈ A, lev c.nm ≠ (k : Int)
 b1 : ∀ c ∈ B1, lev c.nm ≠ (k : Int)
 b2 : ∀ c ∈ B2, lev c.nm ≠ (k : Int)
 b3 : ∀ c ∈ B3, lev c.nm ≠ (k : Int)
 l0 : lev c0.nm = (k : Int)
 l1 : lev c1.nm = (k : Int)
 l2 : lev c2.nm = (k : Int)
 l3 : lev c3.nm = (k : Int)
theorem Zh8 {α : Type} {l : List α} (h : 4 ≤ l.length) : ∃ a b c d r, l = a :: b :: c :: d :: r := by
 match l, h with
 | a :: b :: c :: d :: r, _ => exact ⟨a, b, c, d, r, rfl⟩
theorem Zqh {k : Nat} {L : List Cl} (h : 4 ≤ (atL L k).length) : ∃ A B1 B2 B3 S c0 c1 c2 c3, Four k L A B1 B2 B3 S c0 c1 c2 c3 ∧ (atL L k).take 4 = [c0, c1, c2, c3] := by
 unfold atL at h ⊢
 obtain ⟨c0, c1, c2, c3, r, e⟩ := Zh8 h
 obtain ⟨A, S0, rfl, hA, h0, e1⟩ := List.filter_eq_cons_iff.1 e
 obtain ⟨B1, S1, rfl, hB1, h1, e2⟩ := List.filter_eq_cons_iff.1 e1
 obtain ⟨B2, S2, rfl, hB2, h2, e3⟩ := List.filter_eq_cons_iff.1 e2
 obtain ⟨B3, S3, rfl, hB3, h3, e4⟩ := List.filter_eq_cons_iff.1 e3
 refine ⟨A, B1, B2, B3, S3, c0, c1, c2, c3, ⟨rfl, ?_, ?_, ?_, ?_, ?_, ?_, ?_, ?_⟩, by rw [e]; rfl⟩
 ·intro c hc; simpa using hA c hc
 ·intro c hc; simpa using hB1 c hc
 ·intro c hc; simpa using hB2 c hc
 ·intro c hc; simpa using hB3 c hc
 ·simpa using h0
 ·simpa using h1
 ·simpa using h2
 ·simpa using h3
abbrev Zg8 (c0 c1 c2 c3 : Cl) : Cl := Zav (Zav (Zav c0 c1) c2) c3
theorem c16 : ([AVal.int .i64 0, .int .i64 0, .int .i64 0, .int .i64 0, .int .i64 0, .int .i64 0, .int .i64 0, .int .i64 0, .int .i64 0, .int .i64 0, .int .i64 0, .int .i64 0, .int .i64 0, .int .i64 0, .int .i64 0, .int .i64 0] : List AVal) = (List.replicate 16 (0 : Int)).map fun n => .int .i64 n := rfl
theorem Zh9 {σ : Sto} {h : Nat} {L : List Cl} (hs : Stand σ h L) (hz : Sized L) {Q : Zg} {kk : List Item} {os : List AOper} {d : Option Nat} {e : Env}
  (no : (∀ k, k < 16 → (atL L k).length < 4) → ∀ E, Run T Q (.ops os :: kk) (put e d (.bool false)) (σ ++ E))
  (yes : ∀ k A B1 B2 B3 S c0 c1 c2 c3, k < 16 → (∀ j, j < k → (atL L j).length < 4) → Four k L A B1 B2 B3 S c0 c1 c2 c3 → ∀ σ', Stand σ' h (A ++ Zg8 c0 c1 c2 c3 :: (B1 ++ (B2 ++ (B3 ++ S)))) → (∀ i, i < σ.length → i ∉ ids L → σ'[i]? = σ[i]?) → Run T Q (.ops os :: kk) (put e d (.bool true)) σ') :
  Zp T Q kk os d e σ false i_Xq25 [.ptr h 1 0] := by
 unfold Zp
 rw [ZS T_Xq25 (by simp), Za Xq25.main.eq_1]
 have hh : h < σ.length := (List.getElem?_eq_some_iff.1 hs.hd).1
 have hlt := hs.chn.lt
 have hd1 : ∀ E, (σ ++ E)[h]? = some (.cells false [hdP L]) := fun E => by rw [List.getElem?_append_left hh]; exact hs.hd
 simp (maxSteps := 2000000) only [go_sem, hd1]
 rw [c16]
 refine Zpa (L := L) rfl hlt hz L [] rfl hs.chn _ (by simp) (fun k hk => by
  rw [List.getD_eq_getElem?_getD, List.getElem?_replicate, if_pos hk]; simp) fun C hC hCc => ?_
 have hm : ∀ E : Sto, (σ ++ [AObj.cells false (C.map fun n => AVal.int .i64 n)] ++ E)[σ.length]? = some (.cells false (C.map fun n => .int .i64 n)) := fun E => by rw [List.append_assoc]; exact Zfa
 have hf : ZG C := by unfold ZG; omega
 have sn : Zn (σ ++ [AObj.cells false (C.map fun n => AVal.int .i64 n)]) Zh (.ref σ.length 16 0 16 1) = some (Z3 .lst C) := by
  have := Zfz (n := 62) (o := σ.length) (c := C) (σ := σ ++ [AObj.cells false (C.map fun n => AVal.int .i64 n)]) (by simp)
  rw [hC] at this; exact this
 have sl : Zih 16 1 (.ptr σ.length 16 0) none none (σ ++ [AObj.cells false (C.map fun n => AVal.int .i64 n)]) = some (.ref σ.length 16 0 16 1, σ ++ [AObj.cells false (C.map fun n => AVal.int .i64 n)]) := by
  simp [Zih, bnd, hC]
 by_cases hneg : ix4 C 0 < 0
 ·have hn4 := Zlx hneg
  have nx := no (fun k hk => by
   have h1 := hCc k hk
   have h2 := hn4 (C.getD k 0) (by rw [List.getD_eq_getElem?_getD, List.getElem?_eq_getElem (by omega), Option.getD_some]; exact List.getElem_mem _)
   omega)
  simp (maxSteps := 2000000) only [go_sem, Xq25.c4, sl]
  refine (Zbi T_Xq20 (as := [Z3 .lst C, Zj1]) (fun {lv σ R} => ZfE hf) ?_ (by simp (maxSteps := 2000000) only [go_sem]) rfl).2 ?_
  ·simp only [List.mapM_cons, List.mapM_nil, sn]
   rfl
  simp (maxSteps := 2000000) only [go_sem, hneg, decide_true]
  exact nx _
 ·obtain ⟨k, k1, k2, k3, k4⟩ := Zly hneg
  rw [Nat.zero_add] at k2
  have hk16 : k < 16 := by omega
  have hk4 : 4 ≤ (atL L k).length := by have := hCc k hk16; omega
  obtain ⟨A, B1, B2, B3, S, c0, c1, c2, c3, hF, hX⟩ := Zqh hk4
  have hmin : ∀ j, j < k → (atL L j).length < 4 := fun j hj => by have := hCc j (by omega); have := k4 j hj; omega
  have ys := yes k A B1 B2 B3 S c0 c1 c2 c3 hk16 hmin hF
  have hk0 : ¬ (k : Int) < 0 := by omega
  simp (maxSteps := 2000000) only [go_sem, Xq25.c4, sl]
  refine (Zbi T_Xq20 (as := [Z3 .lst C, Zj1]) (fun {lv σ R} => ZfE hf) ?_ (by simp (maxSteps := 2000000) only [go_sem]) rfl).2 ?_
  ·simp only [List.mapM_cons, List.mapM_nil, sn]
   rfl
  have hd2 : ∀ a b : AObj, (σ ++ [a] ++ [b])[h]? = some (.cells false [hdP L]) := fun a b => by rw [List.append_assoc]; exact hd1 _
  simp (maxSteps := 2000000) only [go_sem, k2, hk0, decide_false, hd2]
  refine Zo7 (σ := σ ++ [.cells false (C.map fun n => .int .i64 n)]) (k := k) (L := L) rfl (fun i hi => by have := hlt i hi; simp; omega) hz L [] rfl (hs.ext _).chn [] [] (by simp) (by simp) fun X rest E hX1 hX2 => ?_
  rw [hX] at hX2
  subst hX2
  have hs1 : Stand (σ ++ [.cells false (C.map fun n => .int .i64 n)] ++ ptO [c0, c1, c2, c3] :: E) h L := (hs.ext _).ext _
  have hm1 : (σ ++ [AObj.cells false (C.map fun n => AVal.int .i64 n)] ++ ptO [c0, c1, c2, c3] :: E)[(σ ++ [AObj.cells false (C.map fun n => AVal.int .i64 n)]).length]? = some (ptO [c0, c1, c2, c3]) := Zfa
  have hmi : (σ ++ [AObj.cells false (C.map fun n => AVal.int .i64 n)]).length ∉ ids L := fun hi => by
   have := hlt _ hi
   rw [List.length_append, List.length_singleton] at this
   omega
  have kp1 : ∀ i, i < σ.length → (σ ++ [AObj.cells false (C.map fun n => AVal.int .i64 n)] ++ ptO [c0, c1, c2, c3] :: E)[i]? = σ[i]? := fun i hi => by
   rw [List.append_assoc, List.getElem?_append_left hi]
  generalize (σ ++ [AObj.cells false (C.map fun n => AVal.int .i64 n)] ++ ptO [c0, c1, c2, c3] :: E) = σ1 at hs1 hm1 kp1 ⊢
  generalize (σ ++ [AObj.cells false (C.map fun n => AVal.int .i64 n)]).length = m at hm1 hmi ⊢
  obtain ⟨heq, -, -, -, -, -, -, -, -⟩ := hF
  subst heq
  have hlen := hz.len
  have htot := hz.tot
  simp only [List.map_append, List.map_cons, List.sum_append, List.sum_cons] at hlen htot
  have q1 : (Zav c0 c1).g.length = c0.g.length + c1.g.length := List.length_append
  have q2 : (Zav (Zav c0 c1) c2).g.length = c0.g.length + c1.g.length + c2.g.length := by rw [List.length_append, q1]
  have lp : (3 : Int) = ((3 : Nat) : Int) := rfl
  have sl3 : Zdv 1 (.ref m 4 0 4 1) (some (.int .i64 1)) none none σ1 = some (.ref m 4 1 3 1, σ1) := by
   simp [Zdv, bnd, Zbn, hm1]
  simp (maxSteps := 2000000) only [go_sem, Xq25.c2, hm1, sl3]
  have j1 : ∀ m, m ∉ ids (A ++ c0 :: (B1 ++ c1 :: (B2 ++ c2 :: (B3 ++ c3 :: S)))) → m ∉ ids (A ++ Zav c0 c1 :: (B1 ++ (B2 ++ c2 :: (B3 ++ c3 :: S)))) := fun m hmi hi => hmi (by
   simp only [Zal, ZM, List.mem_append, List.mem_cons] at hi ⊢
   grind)
  have j2 : ∀ m, m ∉ ids (A ++ c0 :: (B1 ++ c1 :: (B2 ++ c2 :: (B3 ++ c3 :: S)))) → m ∉ ids (A ++ Zav (Zav c0 c1) c2 :: (B1 ++ (B2 ++ (B3 ++ c3 :: S)))) := fun m hmi hi => hmi (by
   simp only [Zal, ZM, List.mem_append, List.mem_cons] at hi ⊢
   grind)
  have i1 := j1 m hmi
  have i2 := j2 m hmi
  refine ZeB (i := 0) (X := [c0, c1, c2, c3]) (by omega) hs1 (by omega) (by omega) hmi hm1 rfl rfl rfl fun σ2 s2 n2 => ?_
  have hm2 := (n2.2 m hmi).trans hm1
  refine ZeB (i := 1) (X := [c0, c1, c2, c3]) (A := A) (B := B1 ++ B2) (c := Zav c0 c1) (x := c2) (S := B3 ++ c3 :: S) (by omega) (by simpa using s2) (by omega) (by show c0.nm + c1.nm + c2.nm < _; omega) (by simpa using i1) hm2 rfl rfl rfl fun σ3 s3 n3 => ?_
  have hm3 := (n3.2 m (by simpa using i1)).trans hm2
  refine ZeB (i := 2) (X := [c0, c1, c2, c3]) (A := A) (B := B1 ++ (B2 ++ B3)) (c := Zav (Zav c0 c1) c2) (x := c3) (S := S) (by omega) (by simpa using s3) (by omega) (by show c0.nm + c1.nm + c2.nm + c3.nm < _; omega) (by simpa using i2) hm3 rfl rfl rfl fun σ4 s4 n4 => ?_
  have s4' : Stand σ4 h (A ++ Zg8 c0 c1 c2 c3 :: (B1 ++ (B2 ++ (B3 ++ S)))) := by simpa using s4
  have nx := ys σ4 s4' fun i hi hn => ((n4.2 i (by simpa using j2 i hn)).trans (n3.2 i (by simpa using j1 i hn))).trans ((n2.2 i hn).trans (kp1 i hi))
  rw [Zb, Za Xq25.b2.eq_1]
  simp (maxSteps := 2000000) only [go_sem, Za Xq25.c0.eq_1, Za Xq25.c1.eq_1, Za Xq25.c2.eq_1, Za Xq25.c3.eq_1, Za Xq25.c4.eq_1, Xq25.k0, Xq25.k1, Xq25.k2]
  exact nx
end Go.Abs
/- Walks of chapter 36: a cluster for each piece. -/
set_option linter.unusedSimpArgs false
set_option linter.unusedVariables false
set_option maxRecDepth 100000
set_option maxHeartbeats 4000000
namespace Go.Abs
open Go
attribute [local go_sem_proc] Nat.reduceLT Nat.reduceEqDiff Nat.reduceLeDiff Nat.reduceAdd Nat.reduceSub Nat.reduceMul Int.reduceLT Int.reduceLE Int.reduceEq Int.reduceNeg
attribute [local go_sem_proc ↓] reduceIte

theorem ZkU : T Zag = none := rfl
theorem ZkV (n : Nat) (L : List (Nat × AVal)) (p q : Nat) (v w : AVal) : Zb6 (mkE n L) [p, q] [v, w] = put (put (mkE n L) (some p) v) (some q) w := rfl
abbrev bkE (n : Nat) (it : AVal) : Env := mkE 26 [(3, .ptr (n + 1) 1 0), (9, it)]
def bkS (τ : Sto) (L : List Cl) (it : AVal) (st : LSt) (E : Sto) : Sto := τ ++ ([.cells false [hdP L], .cells false [.ptr τ.length 1 0], .loop [10, 11] Xq46.y0 (bkE τ.length it) st] ++ E)
theorem ZqV {τ E : Sto} {L : List Cl} {it : AVal} {st : LSt} : (bkS τ L it st E)[τ.length]? = some (.cells false [hdP L]) := by
 rw [bkS, List.getElem?_append_right (Nat.le_refl _), Nat.sub_self]; rfl
theorem ZqW {τ E F : Sto} {L : List Cl} {it : AVal} {st : LSt} : (bkS τ L it st E ++ F)[τ.length + 1]? = some (.cells false [.ptr τ.length 1 0]) := by
 rw [bkS, List.append_assoc, List.getElem?_append_right (by omega), Nat.add_sub_cancel_left]; rfl
theorem Zo5 {τ E : Sto} {L : List Cl} {it : AVal} {st : LSt} : (bkS τ L it st E)[τ.length + 2]? = some (.loop [10, 11] Xq46.y0 (bkE τ.length it) st) := by
 rw [bkS, List.getElem?_append_right (by omega), Nat.add_sub_cancel_left]; rfl
theorem Zlv {τ E : Sto} {L : List Cl} {it : AVal} {st st' : LSt} : (bkS τ L it st E).set (τ.length + 2) (.loop [10, 11] Xq46.y0 (bkE τ.length it) st') = bkS τ L it st' E := by
 rw [bkS, List.set_append_right _ _ (by omega), Nat.add_sub_cancel_left]; rfl
theorem Zqf {τ E : Sto} {L : List Cl} {it : AVal} {st : LSt} : (bkS τ L it st E).length = τ.length + 3 + E.length := by
 simp only [bkS, List.length_append, List.length_cons, List.length_nil]; omega
theorem Zlw {τ E F : Sto} {L : List Cl} {it : AVal} {st : LSt} : bkS τ L it st E ++ F = bkS τ L it st (E ++ F) := by
 simp only [bkS, List.append_assoc]
theorem Ze9 {τ E : Sto} {L : List Cl} {it : AVal} {st : LSt} {k : Nat} : (bkS τ L it st E)[τ.length + 3 + k]? = E[k]? := by
 rw [bkS, List.getElem?_append_right (by omega), show τ.length + 3 + k - τ.length = k + 3 by omega]; rfl
theorem Zqg {τ E : Sto} {L : List Cl} {it : AVal} {st : LSt} {k : Nat} {X : AObj} : (bkS τ L it st E).set (τ.length + 3 + k) X = bkS τ L it st (E.set k X) := by
 rw [bkS, List.set_append_right _ _ (by omega), show τ.length + 3 + k - τ.length = k + 3 by omega]; rfl
theorem Zo6 {τ E : Sto} {c : Cl} {L : List Cl} {it : AVal} {st : LSt} {o : Nat} (h : c.o = o) : (bkS τ L it st E).set τ.length (.cells false [.ptr o 3 0]) = bkS τ (c :: L) it st E := by
 subst h
 rw [bkS, List.set_append_right _ _ (by omega), Nat.sub_self]; rfl
theorem Zj0 {τ E : Sto} {L : List Cl} {it : AVal} {i : Int} {p : Pc} {R : Zs} {c : Cl} (hc : c = ⟨τ.length + 3 + E.length + 2, τ.length + 3 + E.length + 1, [i], p.n.toNat⟩) (hp : 0 ≤ p.n)
  (hR : R (.bool true) (bkS τ (c :: L) it .ready (E ++ [.cells false [.int .i64 p.n, .int .i64 p.b], gO [i], clO c (hdP L)]))) :
  Cw T false Zag [.yld (τ.length + 2), .int .i64 i, .agg [.int .i64 p.n, .int .i64 p.b]] [] (bkS τ L it .ready E) R := by
 rw [Zoi ZkU, Zo5]
 have s0 := fun F => @ZqV τ F L it .busy
 have s1 := fun F => @ZqW τ F [] L it .busy
 simp only [List.append_nil] at s1
 have l1 : ∀ a : AObj, bkS τ L it .busy E ++ [a] = bkS τ L it .busy (E ++ [a]) := fun a => Zlw
 have gl := fun (X : AObj) => @ZgS E X
 have sl := fun (X Y : AObj) => @ZgT E X Y
 simp (maxSteps := 2000000) only [go_sem, ZkV, List.length_cons, List.length_nil, true_and, Zlv]
 rw [Za Xq46.y0.eq_1]
 have gl2 : ∀ X Y : AObj, (E ++ [X] ++ [Y])[E.length]? = some X := fun X Y => by rw [List.append_assoc]; exact Zfa
 have s2 := fun F => @Zo5 τ F (c :: L) it .busy
 have hn : ((p.n.toNat : Nat) : Int) = p.n := Int.toNat_of_nonneg hp
 have ho : ∀ X Y : AObj, c.o = τ.length + 3 + (E ++ [X] ++ [Y]).length := fun X Y => by rw [hc]; simp only [List.length_append, List.length_singleton]; omega
 have hq : ∀ X : AObj, c.q = τ.length + 3 + (E ++ [X]).length := fun X => by rw [hc]; simp only [List.length_append, List.length_singleton]; omega
 have hn' : ((c.nm : Nat) : Int) = p.n := by rw [hc]; exact hn
 have hg : c.g = [i] := by rw [hc]
 have e0 : ∀ (F : Sto) (X Y : AObj), (bkS τ L it .busy F).set τ.length (.cells false [.ptr (τ.length + 3 + (E ++ [X] ++ [Y]).length) 3 0]) = bkS τ (c :: L) it .busy F := fun F X Y => Zo6 (ho X Y)
 simp (maxSteps := 2000000) only [go_sem, Zlw, Zqf, Ze9, Zqg, s0, s1, gl, sl, gl2, e0]
 rw [← hq, ← hn']
 unfold Zak
 rw [s2]
 have hs : ∀ F, (bkS τ (c :: L) it .busy F).set (τ.length + 2) (.loop [10, 11] Xq46.y0 (bkE τ.length it) .ready) = bkS τ (c :: L) it .ready F := fun F => Zlv
 rw [List.append_assoc, List.append_assoc]
 simp only [if_true, hs]
 have hcl : clO c (hdP L) = .cells false [.ref c.q 1 0 1 1, .int .i64 (c.nm : Int), hdP L] := by rw [clO, hg]; rfl
 rw [hcl, ← hn'] at hR
 exact hR
abbrev Gr := List Int × Nat
abbrev Zbu (L : List Cl) : List Gr := L.map fun c => (c.g, c.nm)
def ZeA : List Pc → Nat → List Gr
 | [], _ => []
 | p :: l, i => ([(i : Int)], p.n.toNat) :: ZeA l (i + 1)
structure JInv (τ : Sto) (it : AVal) (l : List Pc) (k : Nat) (L : List Cl) (E : Sto) : Prop where
 chn : Chn (bkS τ L it .ready E) L
 nd : (ids L).Nodup
 bd : ∀ j ∈ ids L, τ.length + 3 ≤ j ∧ j < τ.length + 3 + E.length
 abs : Zbu L = ZeA (l.drop k) k
theorem JInv.next {τ E : Sto} {it : AVal} {l : List Pc} {k : Nat} {L : List Cl} (hk : k < l.length) (h : JInv τ it l (k + 1) L E) :
  JInv τ it l k (⟨τ.length + 3 + E.length + 2, τ.length + 3 + E.length + 1, [(k : Int)], l[k].n.toNat⟩ :: L) (E ++ [.cells false [.int .i64 l[k].n, .int .i64 l[k].b], gO [(k : Int)], clO ⟨τ.length + 3 + E.length + 2, τ.length + 3 + E.length + 1, [(k : Int)], l[k].n.toNat⟩ (hdP L)]) := by
 obtain ⟨h1, h2, h3, h4⟩ := h
 refine ⟨⟨?_, ?_, h1.congr fun j hj => ?_⟩, ?_, ?_, ?_⟩
 ·rw [show τ.length + 3 + E.length + 2 = τ.length + 3 + (E.length + 2) by omega, Ze9, List.getElem?_append_right (by omega), Nat.add_sub_cancel_left]; rfl
 ·rw [show τ.length + 3 + E.length + 1 = τ.length + 3 + (E.length + 1) by omega, Ze9, List.getElem?_append_right (by omega), Nat.add_sub_cancel_left]; rfl
 ·obtain ⟨b1, b2⟩ := h3 j hj
  obtain ⟨q, rfl⟩ := Nat.exists_eq_add_of_le b1
  rw [Ze9, Ze9, List.getElem?_append_left (by omega)]
 ·rw [ZM, List.nodup_cons, List.nodup_cons]
  dsimp only
  refine ⟨fun hm => ?_, fun hm => ?_, h2⟩
  ·rcases List.mem_cons.1 hm with hm | hm
   ·omega
   ·have := h3 _ hm; omega
  ·have := h3 _ hm; omega
 ·intro j hj
  rw [ZM] at hj
  dsimp only at hj
  simp only [List.length_append, List.length_cons, List.length_nil]
  rcases List.mem_cons.1 hj with rfl | hj
  ·omega
  rcases List.mem_cons.1 hj with rfl | hj
  ·omega
  have := h3 _ hj; omega
 ·rw [List.drop_eq_getElem_cons hk, ZeA, ← h4]; rfl
theorem Zne {τ : Sto} {it : AVal} {l : List Pc} {f : SlF} {R : Zs} (hl : ZG l) (hp : ∀ p ∈ l, 0 ≤ p.n) (hR : ∀ L E, JInv τ it l 0 L E → R (.tup []) (bkS τ L it .ready E)) :
  ∀ k, k ≤ l.length → ∀ L E, JInv τ it l k L E → Run T (Ret [] R) (.inLoop Xq14.b0 :: Xq14.k0) (mkE 19 [(0, .yld (τ.length + 2)), (1, .fptr [pcA f l]), (3, .int .i64 ((k : Int) - 1))]) (bkS τ L it .ready E) := by
 intro k
 induction k with
 | zero =>
  intro _ L E hJ
  have hr := hR L E hJ
  rw [Zb, Za Xq14.b0.eq_1]
  simp (maxSteps := 2000000) only [go_sem, Xq14.k0]
  exact hr
 | succ k ih =>
  intro hk L E hJ
  have ih' := ih (by omega) _ _ (hJ.next (by omega))
  have e1 : ((k + 1 : Nat) : Int) - 1 = (k : Int) := by omega
  have e2 : (0 : Int) ≤ (k : Int) := by omega
  have w : IntKind.i64.wrap ((k : Int) - 1) = (k : Int) - 1 := Zi (by omega) (by unfold ZG at hl; omega)
  rw [e1]
  have hkl : k < l.length := by omega
  rw [Zb, Za Xq14.b0.eq_1]
  simp (maxSteps := 2000000) only [go_sem, e2, decide_true, hkl]
  refine Zj0 rfl (hp _ (List.getElem_mem hkl)) ?_
  simp (maxSteps := 2000000) only [go_sem, w]
  exact ih'
abbrev bkC (f : SlF) (l : List Pc) : AVal := .clo (.func i_Xq14) [] [.fptr [pcA f l]]
theorem Znf {f : SlF} {l : List Pc} (hl : ZG l) {lv : List Nat} {σ : Sto} {R : Zs} : Cw T true i_Xq19 [pcA f l] lv σ R ↔ R (bkC f l) σ := by
 refine Zt T_Xq19 (by simp only [go_sem]) (by simp) ?_; rw [Za Xq19.main.eq_1]
 simp (maxSteps := 2000000) only [go_sem, ZdV (σ := [AObj.cells false [pcA f l]]) (v := pcA f l) Zde rfl]
 done
@[go_sem] theorem Zng {f : SlF} {l : List Pc} (hl : ZG l) {Q : Zg} {k : List Item} {os : List AOper} {d : Option Nat} {e : Env} {σ : Sto} : Zp T Q k os d e σ true i_Xq19 [pcA f l] ↔ Run T Q (.ops os :: k) (put e d (bkC f l)) σ := Znf hl

theorem ZkW {τ : Sto} {l : List Pc} {f : SlF} (hl : ZG l) (hp : ∀ p ∈ l, 0 ≤ p.n) {Q : Zg} {kk : List Item} {os : List AOper} {d : Option Nat} {e : Env}
  (next : ∀ σ' L, Stand σ' τ.length L → Zbu L = ZeA l 0 → (∃ E, σ' = τ ++ E) → (∀ j ∈ ids L, τ.length + 3 ≤ j) → Run T Q (.ops os :: kk) (put e d (.ptr τ.length 1 0)) σ') : Zp T Q kk os d e τ false i_Xq46 [pcA f l] := by
 unfold Zp
 rw [ZS T_Xq46 (by simp), Za Xq46.main.eq_1]
 have gl := fun (X : AObj) => @ZgS (τ ++ [AObj.cells false [AVal.nilp]]) X
 have sl := fun (X Y : AObj) => @ZgT (τ ++ [AObj.cells false [AVal.nilp]]) X Y
 have hS : τ ++ [AObj.cells false [AVal.nilp]] ++ [AObj.cells false [AVal.ptr τ.length 1 0]] ++ [AObj.loop [10, 11] Xq46.y0 (bkE τ.length (bkC f l)) .ready] = bkS τ [] (bkC f l) .ready [] := by
  simp only [bkS, hdP, List.append_assoc, List.append_nil]; rfl
 simp (maxSteps := 2000000) only [go_sem, Zng hl, gl, sl]
 unfold Zkk
 simp only [List.length_append, List.length_singleton, List.nil_append, List.append_nil, List.cons_append]
 have hS' : τ ++ [AObj.cells false [AVal.nilp]] ++ [AObj.cells false [AVal.ptr τ.length 1 0]] ++ [AObj.loop [10, 11] Xq46.y0 (mkE 26 [(3, .ptr (τ.length + 1) 1 0), (9, bkC f l)]) .ready] = bkS τ [] (bkC f l) .ready [] := hS
 rw [hS']
 rw [ZS T_Xq14 (by simp), Za Xq14.main.eq_1]
 have w : IntKind.i64.wrap ((l.length : Int) - 1) = (l.length : Int) - 1 := Zi (by omega) (by unfold ZG at hl; omega)
 simp (maxSteps := 2000000) only [go_sem, w]
 refine Zne hl hp (fun L E hJ => ?_) l.length (by omega) [] [] ⟨trivial, by simp [ids], by simp [ids], by rw [List.drop_length]; rfl⟩
 obtain ⟨h1, h2, h3, h4⟩ := hJ
 have nx := next ((bkS τ L (bkC f l) .ready E).set (τ.length + 2) .dead) L ⟨?_, ?_, ?_⟩ (by rw [h4, List.drop_zero]) ⟨([AObj.cells false [hdP L], AObj.cells false [.ptr τ.length 1 0], AObj.loop [10, 11] Xq46.y0 (bkE τ.length (bkC f l)) .ready] ++ E).set 2 .dead, ?_⟩ (fun j hj => (h3 j hj).1)
 ·unfold Zei
  rw [show τ.length + 1 + 1 = τ.length + 2 from rfl, Zo5]
  have g1 : ((bkS τ L (bkC f l) .ready E).set (τ.length + 2) .dead)[τ.length + 1]? = some (.cells false [.ptr τ.length 1 0]) := by
   rw [List.getElem?_set_ne (by omega)]
   have := @ZqW τ E [] L (bkC f l) .ready
   rwa [List.append_nil] at this
  simp (maxSteps := 2000000) only [go_sem, Za Xq46.c0.eq_1, g1]
  exact nx
 ·exact h1.congr fun j hj => List.getElem?_set_ne (by have := h3 j hj; omega)
 ·rw [List.getElem?_set_ne (by omega), ZqV]
 ·rw [List.nodup_cons]
  exact ⟨fun hm => by have := h3 _ hm; omega, h2⟩
 ·rw [bkS, List.set_append_right _ _ (by omega), Nat.add_sub_cancel_left]
end Go.Abs
/- Chapter 36, plain: what is chosen, on lists. -/
set_option linter.unusedSimpArgs false
set_option linter.unusedVariables false
set_option maxRecDepth 100000
set_option maxHeartbeats 4000000
namespace Go.Abs
open Go

def Zg4 (k : Int) : Nat → Gr → List Gr → Gr × List Gr
 | 0, c, l => (c, l)
 | _ + 1, c, [] => (c, [])
 | n + 1, c, x :: l => if lev x.2 = k then Zg4 k n (c.1 ++ x.1, c.2 + x.2) l else ((Zg4 k (n + 1) c l).1, x :: (Zg4 k (n + 1) c l).2)
def ZjY (k : Int) : List Gr → List Gr
 | [] => []
 | x :: l => if lev x.2 = k then (Zg4 k 3 x l).1 :: (Zg4 k 3 x l).2 else x :: ZjY k l
def Zg5 (l : List Gr) (k : Nat) : Nat := (l.filter fun x => decide (lev x.2 = (k : Int))).length
def Zb5 (l : List Gr) : Option (List Gr) := ((List.range 16).find? fun k => decide (4 ≤ Zg5 l k)).map fun k : Nat => ZjY (k : Int) l
def Zey : Nat → List Gr → List Gr
 | 0, l => l
 | n + 1, l => match Zb5 l with
  | none => l
  | some l' => Zey n l'
abbrev Zg6 (c x : Gr) : Gr := (c.1 ++ x.1, c.2 + x.2)
theorem Znd {k : Int} {c : Gr} {l : List Gr} : Zg4 k 0 c l = (c, l) := by cases l <;> rfl
theorem Ze8 {k : Int} {n : Nat} {c x : Gr} {l : List Gr} (hx : lev x.2 = k) : ∀ B : List Gr, (∀ b ∈ B, lev b.2 ≠ k) → Zg4 k (n + 1) c (B ++ x :: l) = ((Zg4 k n (Zg6 c x) l).1, B ++ (Zg4 k n (Zg6 c x) l).2)
 | [], _ => by rw [List.nil_append, List.nil_append, Zg4, if_pos hx]
 | b :: B, h => by
  rw [List.cons_append, Zg4, if_neg (h b List.mem_cons_self), Ze8 hx B fun b hb => h b (List.mem_cons_of_mem _ hb)]; rfl
structure FourG (k : Nat) (l A B1 B2 B3 S : List Gr) (c0 c1 c2 c3 : Gr) : Prop where
 eq : l = A ++ c0 :: (B1 ++ c1 :: (B2 ++ c2 :: (B3 ++ c3 :: S)))
 a : ∀ c ∈ A, lev c.2 ≠ (k : Int)
 b1 : ∀ c ∈ B1, lev c.2 ≠ (k : Int)
 b2 : ∀ c ∈ B2, lev c.2 ≠ (k : Int)
 b3 : ∀ c ∈ B3, lev c.2 ≠ (k : Int)
 l0 : lev c0.2 = (k : Int)
 l1 : lev c1.2 = (k : Int)
 l2 : lev c2.2 = (k : Int)
 l3 : lev c3.2 = (k : Int)
abbrev Zc1 (c0 c1 c2 c3 : Gr) : Gr := Zg6 (Zg6 (Zg6 c0 c1) c2) c3
theorem Zg7 {k : Nat} {l A B1 B2 B3 S : List Gr} {c0 c1 c2 c3 : Gr} (h : FourG k l A B1 B2 B3 S c0 c1 c2 c3) : ZjY k l = A ++ Zc1 c0 c1 c2 c3 :: (B1 ++ (B2 ++ (B3 ++ S))) := by
 obtain ⟨rfl, ha, b1, b2, b3, l0, l1, l2, l3⟩ := h
 induction A with
 | nil => rw [List.nil_append, ZjY, if_pos l0, Ze8 l1 B1 b1, Ze8 l2 B2 b2, Ze8 l3 B3 b3, Znd]; rfl
 | cons a A ih =>
  rw [List.cons_append, ZjY, if_neg (ha a List.mem_cons_self), ih fun c hc => ha c (List.mem_cons_of_mem _ hc)]; rfl
theorem ZkT {l : List Gr} : Zb5 l = none ↔ ∀ k, k < 16 → Zg5 l k < 4 := by
 simp only [Zb5, Option.map_eq_none_iff, List.find?_eq_none, List.mem_range, decide_eq_true_eq, Nat.not_le]
theorem Zo3 {k : Nat} {l : List Gr} (h : 4 ≤ Zg5 l k) : ∃ A B1 B2 B3 S c0 c1 c2 c3, FourG k l A B1 B2 B3 S c0 c1 c2 c3 := by
 unfold Zg5 at h
 obtain ⟨c0, c1, c2, c3, r, e⟩ := Zh8 h
 obtain ⟨A, S0, rfl, hA, h0, e1⟩ := List.filter_eq_cons_iff.1 e
 obtain ⟨B1, S1, rfl, hB1, h1, e2⟩ := List.filter_eq_cons_iff.1 e1
 obtain ⟨B2, S2, rfl, hB2, h2, e3⟩ := List.filter_eq_cons_iff.1 e2
 obtain ⟨B3, S3, rfl, hB3, h3, e4⟩ := List.filter_eq_cons_iff.1 e3
 refine ⟨A, B1, B2, B3, S3, c0, c1, c2, c3, ⟨rfl, ?_, ?_, ?_, ?_, ?_, ?_, ?_, ?_⟩⟩
 ·intro c hc; simpa using hA c hc
 ·intro c hc; simpa using hB1 c hc
 ·intro c hc; simpa using hB2 c hc
 ·intro c hc; simpa using hB3 c hc
 ·simpa using h0
 ·simpa using h1
 ·simpa using h2
 ·simpa using h3
theorem Zez {l l' : List Gr} (h : Zb5 l = some l') : ∃ k A B1 B2 B3 S c0 c1 c2 c3, k < 16 ∧ (∀ j, j < k → Zg5 l j < 4) ∧ FourG k l A B1 B2 B3 S c0 c1 c2 c3 ∧ l' = A ++ Zc1 c0 c1 c2 c3 :: (B1 ++ (B2 ++ (B3 ++ S))) := by
 simp only [Zb5, Option.map_eq_some_iff] at h
 obtain ⟨k, hk, rfl⟩ := h
 rw [List.find?_range_eq_some] at hk
 obtain ⟨h1, h2, h3⟩ := hk
 obtain ⟨A, B1, B2, B3, S, c0, c1, c2, c3, hF⟩ := Zo3 (of_decide_eq_true h1)
 exact ⟨k, A, B1, B2, B3, S, c0, c1, c2, c3, List.mem_range.1 h2, fun j hj => by have := h3 j hj; simpa using this, hF, Zg7 hF⟩
theorem Zo4 {l A B1 B2 B3 S : List Gr} {k : Nat} {c0 c1 c2 c3 : Gr} (hk : k < 16) (hm : ∀ j, j < k → Zg5 l j < 4) (hF : FourG k l A B1 B2 B3 S c0 c1 c2 c3) : Zb5 l = some (A ++ Zc1 c0 c1 c2 c3 :: (B1 ++ (B2 ++ (B3 ++ S)))) := by
 have h4 : 4 ≤ Zg5 l k := by
  obtain ⟨rfl, ha, b1, b2, b3, l0, l1, l2, l3⟩ := hF
  unfold Zg5
  simp only [List.filter_append, List.length_append, List.filter_cons, l0, l1, l2, l3, decide_true, if_true, List.length_cons]
  omega
 have : (List.range 16).find? (fun k => decide (4 ≤ Zg5 l k)) = some k := by
  rw [List.find?_range_eq_some]
  exact ⟨decide_eq_true h4, List.mem_range.2 hk, fun j hj => by have := hm j hj; simpa using this⟩
 rw [Zb5, this, Option.map_some, Zg7 hF]
theorem Zlu {L : List Cl} {k : Nat} : Zg5 (Zbu L) k = (atL L k).length := by
 unfold Zg5 Zbu atL
 rw [List.filter_map, List.length_map]; rfl
theorem Four.abs {k : Nat} {L A B1 B2 B3 S : List Cl} {c0 c1 c2 c3 : Cl} (h : Four k L A B1 B2 B3 S c0 c1 c2 c3) : FourG k (Zbu L) (Zbu A) (Zbu B1) (Zbu B2) (Zbu B3) (Zbu S) (c0.g, c0.nm) (c1.g, c1.nm) (c2.g, c2.nm) (c3.g, c3.nm) := by
 have hm : ∀ {M : List Cl}, (∀ c ∈ M, lev c.nm ≠ (k : Int)) → ∀ c ∈ Zbu M, lev c.2 ≠ (k : Int) := fun hM c hc => by
  obtain ⟨d, hd, rfl⟩ := List.mem_map.1 hc
  exact hM d hd
 obtain ⟨rfl, ha, b1, b2, b3, l0, l1, l2, l3⟩ := h
 exact ⟨by simp only [Zbu, List.map_append, List.map_cons], hm ha, hm b1, hm b2, hm b3, l0, l1, l2, l3⟩

theorem Zc2 {l l' : List Gr} (h : Zb5 l = some l') : (l'.flatMap (·.1)).Perm (l.flatMap (·.1)) ∧ (l'.map (·.2)).sum = (l.map (·.2)).sum ∧ l'.length + 3 = l.length := by
 obtain ⟨k, A, B1, B2, B3, S, c0, c1, c2, c3, hk, hm, ⟨rfl, -, -, -, -, -, -, -, -⟩, rfl⟩ := Zez h
 refine ⟨?_, ?_, ?_⟩
 ·rw [List.perm_iff_count]
  intro a
  simp only [List.flatMap_append, List.flatMap_cons, List.count_append, Zc1, Zg6]
  omega
 ·simp only [List.map_append, List.map_cons, List.sum_append, List.sum_cons, Zc1, Zg6]; omega
 ·simp only [List.length_append, List.length_cons]; omega
theorem ZfU : ∀ {l : List Pc} {i : Nat}, (ZeA l i).length = l.length
 | [], _ => rfl
 | p :: l, i => by rw [ZeA, List.length_cons, ZfU]; rfl
structure GOk (n : Nat) (l : List Gr) : Prop where
 nd : (l.flatMap (·.1)).Nodup
 bd : ∀ i : Int, i ∈ l.flatMap (·.1) → 0 ≤ i ∧ i < (n : Int)
 pos : ∀ x ∈ l, 1 ≤ x.2
 len : ∀ x ∈ l, x.1.length = 1 ∨ 4 ≤ x.1.length
theorem GOk.step {n : Nat} {l l' : List Gr} (h : GOk n l) (hs : Zb5 l = some l') : GOk n l' := by
 have hp := (Zc2 hs).1
 obtain ⟨k, A, B1, B2, B3, S, c0, c1, c2, c3, hk, hm, ⟨rfl, -, -, -, -, -, -, -, -⟩, rfl⟩ := Zez hs
 obtain ⟨h1, h2, h3, h4⟩ := h
 have e4 : ∀ c ∈ [c0, c1, c2, c3], 1 ≤ c.1.length ∧ 1 ≤ c.2 := fun c hc => by
  have hc' : c ∈ A ++ c0 :: (B1 ++ c1 :: (B2 ++ c2 :: (B3 ++ c3 :: S))) := by simp at hc ⊢; grind
  have := h4 c hc'
  have := h3 c hc'
  omega
 have p0 := e4 c0 (by simp)
 have p1 := e4 c1 (by simp)
 have p2 := e4 c2 (by simp)
 have p3 := e4 c3 (by simp)
 refine ⟨hp.nodup_iff.2 h1, fun i hi => h2 i (hp.mem_iff.1 hi), fun x hx => ?_, fun x hx => ?_⟩
 ·by_cases e : x = Zc1 c0 c1 c2 c3
  ·subst e; simp only [Zc1, Zg6]; omega
  ·exact h3 x (by simp at hx ⊢; grind)
 ·by_cases e : x = Zc1 c0 c1 c2 c3
  ·subst e; right; simp only [Zc1, Zg6, List.length_append]; omega
  ·exact h4 x (by simp at hx ⊢; grind)
theorem GOk.run {n : Nat} : ∀ {m : Nat} {l : List Gr}, GOk n l → GOk n (Zey m l)
 | 0, _, h => h
 | m + 1, l, h => by
  unfold Zey
  split
  ·exact h
  ·rename_i hs; exact (h.step hs).run
theorem ZjZ : ∀ {m : Nat} {l : List Gr}, ((Zey m l).flatMap (·.1)).Perm (l.flatMap (·.1))
 | 0, _ => List.Perm.refl _
 | m + 1, l => by
  unfold Zey
  split
  ·exact List.Perm.refl _
  ·rename_i hs; exact ZjZ.trans (Zc2 hs).1
end Go.Abs
/- Walks of chapter 36: steps until none is possible. -/
set_option linter.unusedSimpArgs false
set_option linter.unusedVariables false
set_option maxRecDepth 100000
set_option maxHeartbeats 4000000
namespace Go.Abs
open Go
attribute [local go_sem_proc] Nat.reduceLT Nat.reduceEqDiff Nat.reduceLeDiff Nat.reduceAdd Nat.reduceSub Nat.reduceMul Int.reduceLT Int.reduceLE Int.reduceEq Int.reduceNeg
attribute [local go_sem_proc ↓] reduceIte

structure GSz (n : Nat) (l : List Gr) : Prop where
 ok : GOk n l
 tot : (l.map (·.2)).sum ≤ 16000000
 len : (l.flatMap (·.1)).length ≤ 100000
theorem GSz.sized {n : Nat} {L : List Cl} (h : GSz n (Zbu L)) : Sized L where
 pos := fun c hc => h.ok.pos _ (List.mem_map.2 ⟨c, hc, rfl⟩)
 tot := by have := h.tot; rwa [Zbu, List.map_map] at this
 len := by have := h.len; rw [Zbu, List.length_flatMap, List.map_map] at this; exact this
theorem GSz.step {n : Nat} {l l' : List Gr} (h : GSz n l) (hs : Zb5 l = some l') : GSz n l' where
 ok := h.ok.step hs
 tot := by rw [(Zc2 hs).2.1]; exact h.tot
 len := by rw [(Zc2 hs).1.length_eq]; exact h.len
theorem GSz.run {n : Nat} : ∀ {m : Nat} {l : List Gr}, GSz n l → GSz n (Zey m l)
 | 0, _, h => h
 | m + 1, l, h => by
  unfold Zey
  split
  ·exact h
  ·rename_i hs; exact (h.step hs).run
theorem Zo2 {A B1 B2 B3 S : List Cl} {c0 c1 c2 c3 : Cl} {i : Nat} (h : i ∈ ids (A ++ Zg8 c0 c1 c2 c3 :: (B1 ++ (B2 ++ (B3 ++ S))))) : i ∈ ids (A ++ c0 :: (B1 ++ c1 :: (B2 ++ c2 :: (B3 ++ c3 :: S)))) := by
 simp only [Zal, ZM, List.mem_append, List.mem_cons] at h ⊢
 grind
abbrev ZqU (h : Nat) : AVal := .clo (.func i_Xq25) [.ptr h 1 0] []
theorem Zqe {h n m0 : Nat} {σ0 : Sto} {Q : Zg} (hm0 : m0 ≤ h) : ∀ (m : Nat) (L : List Cl) (σ : Sto), L.length ≤ m → Stand σ h L → GSz n (Zbu L) → (∀ j ∈ ids L, m0 ≤ j) → (∀ i, i < m0 → σ[i]? = σ0[i]?) →
  (∀ σ' L', Stand σ' h L' → Zbu L' = Zey m (Zbu L) → (∀ j ∈ ids L', m0 ≤ j) → (∀ i, i < m0 → σ'[i]? = σ0[i]?) → Run T Q [.code (.ghost (.kill [5, 16])), .code Xq43.c2] (mkE 46 [(4, .ptr h 1 0), (5, ZqU h), (16, .bool false)]) σ') →
  Run T Q (.inLoop Xq43.b0 :: Xq43.k0) (mkE 46 [(4, .ptr h 1 0), (5, ZqU h)]) σ := by
 intro m
 induction m with
 | zero =>
  intro L σ hL hs hz hi hk next
  have hh : h < σ.length := (List.getElem?_eq_some_iff.1 hs.hd).1
  have e : L = [] := List.eq_nil_of_length_eq_zero (by omega)
  rw [Zb, Za Xq43.b0.eq_1]
  simp (maxSteps := 2000000) only [go_sem]
  refine Zh9 hs hz.sized (fun _ E => ?_) fun k A B1 B2 B3 S c0 c1 c2 c3 _ _ hF => ?_
  ·have nx := next (σ ++ E) L (hs.ext E) rfl hi (fun i hi => by rw [List.getElem?_append_left (by omega)]; exact hk i hi)
   simp (maxSteps := 2000000) only [go_sem, Xq43.k0]
   exact nx
  ·have := hF.eq
   rw [e] at this
   simp at this
 | succ m ih =>
  intro L σ hL hs hz hi hk next
  have hh : h < σ.length := (List.getElem?_eq_some_iff.1 hs.hd).1
  rw [Zb, Za Xq43.b0.eq_1]
  simp (maxSteps := 2000000) only [go_sem]
  refine Zh9 hs hz.sized (fun hno E => ?_) fun k A B1 B2 B3 S c0 c1 c2 c3 hk16 hmin hF σ' hs' hkp => ?_
  ·have hn : Zb5 (Zbu L) = none := ZkT.2 fun k hk => by rw [Zlu]; exact hno k hk
   have nx := next (σ ++ E) L (hs.ext E) (by rw [Zey, hn]) hi (fun i hi => by rw [List.getElem?_append_left (by omega)]; exact hk i hi)
   simp (maxSteps := 2000000) only [go_sem, Xq43.k0]
   exact nx
  ·have hst : Zb5 (Zbu L) = some (Zbu (A ++ Zg8 c0 c1 c2 c3 :: (B1 ++ (B2 ++ (B3 ++ S))))) := by
    rw [Zo4 hk16 (fun j hj => by rw [Zlu]; exact hmin j hj) hF.abs]
    simp only [Zbu, List.map_append, List.map_cons, Zg8, Zav, Zc1, Zg6]
   have hlen := (Zc2 hst).2.2
   simp only [Zbu, List.length_map] at hlen
   have hr : Zey (m + 1) (Zbu L) = Zey m (Zbu (A ++ Zg8 c0 c1 c2 c3 :: (B1 ++ (B2 ++ (B3 ++ S))))) := by rw [Zey, hst]
   have nx := ih (A ++ Zg8 c0 c1 c2 c3 :: (B1 ++ (B2 ++ (B3 ++ S)))) σ' (by omega) hs' (hz.step hst) (fun j hj => hi j (by rw [hF.eq]; exact Zo2 hj)) (fun i him => by
    rw [hkp i (by omega) (fun hm => by have := hi i hm; omega)]
    exact hk i him) (by rw [hr] at next; exact next)
   simp (maxSteps := 2000000) only [go_sem]
   exact nx
end Go.Abs
/- Walks of chapter 36: Choose. -/
set_option linter.unusedSimpArgs false
set_option linter.unusedVariables false
set_option maxRecDepth 100000
set_option maxHeartbeats 4000000
namespace Go.Abs
open Go
attribute [local go_sem_proc] Nat.reduceLT Nat.reduceEqDiff Nat.reduceLeDiff Nat.reduceAdd Nat.reduceSub Nat.reduceMul Int.reduceLT Int.reduceLE Int.reduceEq Int.reduceNeg
attribute [local go_sem_proc ↓] reduceIte

abbrev Zdk (c : Cl) : AVal := .ref c.q c.g.length 0 c.g.length 1
abbrev ZkS (D : List Cl) : AObj := .cells true (D.map Zdk)
structure Col (m m0 : Nat) (σ0 σ : Sto) (D rest : List Cl) : Prop where
 out : σ[m]? = some (ZkS D)
 got : ∀ d ∈ D, σ[d.q]? = some (gO (Zao d.g))
 chn : Chn σ rest
 nd : (ids (D ++ rest)).Nodup
 mn : m ∉ ids (D ++ rest)
 low : ∀ i, i < m0 → σ[i]? = σ0[i]?
 bd : ∀ i ∈ ids (D ++ rest), m0 ≤ i
 ok : ∀ c ∈ D ++ rest, c.g.length ≤ 300 ∧ c.g.Nodup
 few : D.length + rest.length ≤ 1000
theorem Zo1 {m m0 : Nat} {σ0 : Sto} {Q : Zg} (hm : m0 ≤ m) : ∀ (rest D : List Cl) (σ : Sto), Col m m0 σ0 σ D rest →
  (∀ σ', Col m m0 σ0 σ' (D ++ rest.filter fun c => decide (1 < c.g.length)) [] → Run T Q [.code (.ghost (.kill [7, 22])), .code Xq43.c0] (mkE 46 [(6, .ref m (D ++ rest.filter fun c => decide (1 < c.g.length)).length 0 (D ++ rest.filter fun c => decide (1 < c.g.length)).length 1), (7, .nilp), (22, .bool false)]) σ') →
  Run T Q (.inLoop Xq43.b1 :: Xq43.k1) (mkE 46 [(6, .ref m D.length 0 D.length 1), (7, hdP rest)]) σ := by
 intro rest
 induction rest with
 | nil =>
  intro D σ h next
  have nx := next σ (by rw [List.filter_nil, List.append_nil]; exact h)
  rw [List.filter_nil, List.append_nil] at nx
  rw [Zb, Za Xq43.b1.eq_1]
  simp (maxSteps := 2000000) only [go_sem, hdP, Xq43.k1]
  exact nx
 | cons c rest ih =>
  intro D σ h next
  obtain ⟨h1, h2, ⟨c1, c2, c3⟩, h4, h5, h6, h7, h8, h9⟩ := h
  have hcm : c ∈ D ++ c :: rest := by simp
  have hq := ZdI hcm
  have ho := Zdr hcm
  have hmq : m ≠ c.q := fun e => h5 (e ▸ hq)
  have hmo : m ≠ c.o := fun e => h5 (e ▸ ho)
  obtain ⟨hc3, hcn⟩ := h8 c hcm
  have hnd := h4
  rw [Zal, ZM, List.nodup_append] at hnd
  obtain ⟨n1, n2, n3⟩ := hnd
  rw [List.nodup_cons, List.nodup_cons] at n2
  obtain ⟨n4, n5, n6⟩ := n2
  have hoq : c.o ≠ c.q := fun e => n4 (by rw [e]; exact List.mem_cons_self)
  by_cases hl : 1 < c.g.length
  ·have hl' : (1 : Int) < (c.g.length : Int) := by omega
   have e1 : (c :: rest).filter (fun c => decide (1 < c.g.length)) = c :: rest.filter (fun c => decide (1 < c.g.length)) := List.filter_cons_of_pos (by simpa using hl)
   rw [e1] at next
   rw [Zb, Za Xq43.b1.eq_1]
   simp (maxSteps := 2000000) only [go_sem, Zbd, c1, c2, List.length_map, hl', decide_true]
   refine Zg9 c2 hc3 hcn fun E => ?_
   have lm : m < σ.length := (List.getElem?_eq_some_iff.1 h1).1
   have lq : c.q < σ.length := (List.getElem?_eq_some_iff.1 c2).1
   have lo : c.o < σ.length := (List.getElem?_eq_some_iff.1 c1).1
   have k1 : ∀ i, i < σ.length → i ≠ c.q → (List.set σ c.q (.cells false ((Zao c.g).map fun n => .int .i64 n)) ++ E)[i]? = σ[i]? := fun i hi hn => by
    rw [List.getElem?_append_left (by rw [List.length_set]; exact hi), List.getElem?_set_ne hn.symm]
   have k2 : (List.set σ c.q (.cells false ((Zao c.g).map fun n => .int .i64 n)) ++ E)[c.q]? = some (gO (Zao c.g)) := by
    rw [List.getElem?_append_left (by rw [List.length_set]; exact lq), List.getElem?_set_self lq]
   have ls : σ.length ≤ (List.set σ c.q (.cells false ((Zao c.g).map fun n => .int .i64 n)) ++ E).length := by
    rw [List.length_append, List.length_set]; omega
   have g1 := (k1 c.o lo hoq).trans c1
   have gm := (k1 m lm hmq).trans h1
   generalize (List.set σ c.q (.cells false ((Zao c.g).map fun n => .int .i64 n)) ++ E) = S1 at k1 k2 ls g1 gm ⊢
   have kk1 : ∀ (X Y : AObj) i, i < σ.length → i ≠ c.q → i ≠ m → ((S1 ++ [X]).set m Y)[i]? = σ[i]? := fun X Y i hi hn hm => by
    rw [List.getElem?_set_ne hm.symm, List.getElem?_append_left (by omega)]
    exact k1 i hi hn
   have hcd : ∀ d ∈ D ++ c :: rest, d ≠ c → d.q ≠ c.q := fun d hd hne e => by
    rcases List.mem_append.1 hd with hd | hd
    ·exact n3 _ (ZdI hd) c.q (by simp) e
    ·rcases List.mem_cons.1 hd with rfl | hd
     ·exact hne rfl
     ·exact n5 (e ▸ ZdI hd)
   have hcol : Col m m0 σ0 ((S1 ++ [AObj.cells false [Zdk c]]).set m (ZkS (D ++ [c]))) (D ++ [c]) rest := by
    refine ⟨?_, fun d hd => ?_, c3.congr fun i hi => ?_, by rw [List.append_assoc]; exact h4, by rw [List.append_assoc]; exact h5, fun i hi => ?_, by rw [List.append_assoc]; exact h7, by rw [List.append_assoc]; exact h8, by rw [List.length_append, List.length_singleton]; rw [List.length_cons] at h9; omega⟩
    ·rw [List.getElem?_set_self (by rw [List.length_append]; omega)]
    ·rcases List.mem_append.1 hd with hd | hd
     ·have hdm : d ∈ D ++ c :: rest := List.mem_append_left _ hd
      have h2d := h2 d hd
      have ld : d.q < σ.length := (List.getElem?_eq_some_iff.1 h2d).1
      rw [kk1 _ _ d.q ld (fun e => n3 _ (ZdI hd) c.q (by simp) e) (fun e => h5 (e ▸ ZdI hdm))]
      exact h2d
     ·rw [List.mem_singleton] at hd
      subst hd
      rw [List.getElem?_set_ne hmq, List.getElem?_append_left (by omega)]
      exact k2
    ·exact kk1 _ _ i (c3.lt i hi) (fun e => n5 (e ▸ hi)) (fun e => h5 (by rw [← e, Zal, ZM]; simp [hi]))
    ·rw [kk1 _ _ i (by omega) (fun e => by have := h7 _ hq; omega) (by omega)]
     exact h6 i hi
   have ih' := ih _ _ hcol (by rw [List.append_assoc]; exact next)
   have hap : Zbv 1 24 (.ref m D.length 0 D.length 1) (.ref S1.length 1 0 1 1) (S1 ++ [AObj.cells false [Zdk c]]) = some (.ref m (D.length + 1) 0 (D.length + 1) 1, (S1 ++ [AObj.cells false [Zdk c]]).set m (ZkS (D ++ [c]))) := by
    rw [Zdd (nl := true) (nl' := false) (v := Zdk c) (cs := D.map Zdk) (by rw [List.getElem?_append_left (by omega)]; exact gm) (by simp) (List.length_map ..) rfl (by simp only [Zm]; rw [List.length_cons] at h9; omega)]
    simp only [ZkS, List.map_append, List.map_cons, List.map_nil]
   have gl : ∀ (X Y : AObj), ((S1 ++ [X]).set m Y)[c.o]? = some (clO c (hdP rest)) := fun X Y => (kk1 X Y c.o lo hoq (fun e => hmo e.symm)).trans c1
   rw [List.length_append, List.length_singleton] at ih'
   simp (maxSteps := 2000000) only [go_sem, g1, hap, Xq43.c1, gl]
   exact ih'
  ·have hl' : ¬ (1 : Int) < (c.g.length : Int) := by omega
   have e1 : (c :: rest).filter (fun c => decide (1 < c.g.length)) = rest.filter (fun c => decide (1 < c.g.length)) := List.filter_cons_of_neg (by simpa using hl)
   rw [e1] at next
   have hsub : ∀ i, i ∈ ids (D ++ rest) → i ∈ ids (D ++ c :: rest) := fun i hi => by
    simp only [Zal, ZM, List.mem_append, List.mem_cons] at hi ⊢; grind
   have ih' := ih D σ ⟨h1, h2, c3, by
    rw [Zal, List.nodup_append]
    exact ⟨n1, n6, fun a ha b hb => n3 a ha b (List.mem_cons_of_mem _ (List.mem_cons_of_mem _ hb))⟩, fun hi => h5 (hsub _ hi), h6, fun i hi => h7 i (hsub i hi), fun d hd => h8 d (by simp at hd ⊢; grind), by rw [List.length_cons] at h9; omega⟩ next
   rw [Zb, Za Xq43.b1.eq_1]
   simp (maxSteps := 2000000) only [go_sem, Zbd, c1, c2, List.length_map, hl', decide_false, Xq43.c1]
   exact ih'
end Go.Abs
/- Walks of chapter 36: Choose, as a call. -/
set_option linter.unusedSimpArgs false
set_option linter.unusedVariables false
set_option maxRecDepth 100000
set_option maxHeartbeats 4000000
namespace Go.Abs
open Go
attribute [local go_sem_proc] Nat.reduceLT Nat.reduceEqDiff Nat.reduceLeDiff Nat.reduceAdd Nat.reduceSub Nat.reduceMul Int.reduceLT Int.reduceLE Int.reduceEq Int.reduceNeg
attribute [local go_sem_proc ↓] reduceIte

theorem Zc0 : ∀ {l : List Pc} {i : Nat}, (ZeA l i).flatMap (·.1) = (List.range' i l.length).map fun k : Nat => (k : Int)
 | [], _ => rfl
 | p :: l, i => by
  rw [ZeA, List.flatMap_cons, Zc0, List.length_cons, List.range'_succ, List.map_cons]; rfl
theorem Zg2 : ∀ {l : List Pc} {i : Nat} {x : Gr}, x ∈ ZeA l i → x.1.length = 1 ∧ ∃ p ∈ l, x.2 = p.n.toNat
 | p :: l, i, x, h => by
  rcases List.mem_cons.1 h with rfl | h
  ·exact ⟨rfl, p, List.mem_cons_self, rfl⟩
  ·obtain ⟨h1, q, h2, h3⟩ := Zg2 h
   exact ⟨h1, q, List.mem_cons_of_mem _ h2, h3⟩
theorem ZjT {b : Nat} : ∀ {l : List Pc} {i : Nat}, (∀ p ∈ l, p.n ≤ (b : Int)) → ((ZeA l i).map (·.2)).sum ≤ b * l.length
 | [], _, _ => by simp [ZeA]
 | p :: l, i, h => by
  have := ZjT (l := l) (i := i + 1) fun q hq => h q (List.mem_cons_of_mem _ hq)
  have := h p List.mem_cons_self
  simp only [ZeA, List.map_cons, List.sum_cons, List.length_cons, Nat.mul_add]; omega
theorem Zh7 {l : List Pc} (h : ZJ l = true) : l.length ≤ 512 ∧ ∀ p ∈ l, 1 ≤ p.n ∧ p.n ≤ 5994 ∧ 0 ≤ p.b ∧ p.b ≤ 1000000000 := by
 unfold ZJ okP at h
 simp only [Bool.and_eq_true, decide_eq_true_eq, List.all_eq_true] at h
 exact ⟨h.1, fun p hp => h.2 p hp⟩
theorem Zlt {l : List Pc} (h : ZJ l = true) : GSz l.length (ZeA l 0) := by
 obtain ⟨h1, h2⟩ := Zh7 h
 refine ⟨⟨?_, fun i hi => ?_, fun x hx => ?_, fun x hx => .inl (Zg2 hx).1⟩, ?_, ?_⟩
 ·rw [Zc0]
  exact List.Pairwise.map (fun k : Nat => (k : Int)) (fun a b (e : a ≠ b) => by show (a : Int) ≠ b; omega) List.nodup_range'
 ·rw [Zc0] at hi
  obtain ⟨k, hk, rfl⟩ := List.mem_map.1 hi
  rw [List.mem_range'_1] at hk
  omega
 ·obtain ⟨_, p, hp, e⟩ := Zg2 hx
  have := h2 p hp
  omega
 ·have := ZjT (b := 5994) (l := l) (i := 0) fun p hp => (h2 p hp).2.1
  omega
 ·rw [Zc0, List.length_map, List.length_range']; omega
def Zm9 (l : List Pc) : List Gr := Zey l.length (ZeA l 0)
def ZaG (l : List Pc) : List (List Int) := ((Zm9 l).filter fun x => decide (1 < x.1.length)).map fun x => Zao x.1
theorem Zf9 {l : List Pc} (h : ZJ l = true) : GSz l.length (Zm9 l) := (Zlt h).run
theorem ZjU {α β : Type} {f : α → List β} {l : List α} {x : α} (hx : x ∈ l) (hn : (l.flatMap f).Nodup) : (f x).Nodup := by
 obtain ⟨A, B, rfl⟩ := List.append_of_mem hx
 rw [List.flatMap_append, List.flatMap_cons] at hn
 exact (List.nodup_append.1 (List.nodup_append.1 hn).2.1).1
theorem ZjV {α β : Type} {f : α → List β} {l : List α} {x : α} (hx : x ∈ l) : (f x).length ≤ (l.flatMap f).length := by
 obtain ⟨A, B, rfl⟩ := List.append_of_mem hx
 simp only [List.flatMap_append, List.flatMap_cons, List.length_append]; omega
theorem ZfD {l : List Pc} : ((Zm9 l).flatMap (·.1)).Perm ((List.range' 0 l.length).map fun k : Nat => (k : Int)) := by
 have := ZjZ (m := l.length) (l := ZeA l 0)
 rwa [Zc0] at this
theorem ZjW {l : List Pc} (h : ZJ l = true) : (Zm9 l).length ≤ l.length := by
 have h1 := (Zf9 h).ok.len
 have h2 := (ZfD (l := l)).length_eq
 rw [List.length_map, List.length_range'] at h2
 have h3 : ∀ M : List Gr, (∀ x ∈ M, x.1.length = 1 ∨ 4 ≤ x.1.length) → M.length ≤ (M.flatMap (·.1)).length := by
  intro M
  induction M with
  | nil => intro _; simp
  | cons x M ih =>
   intro hM
   have a := ih fun y hy => hM y (List.mem_cons_of_mem _ hy)
   have b := hM x List.mem_cons_self
   rw [List.flatMap_cons, List.length_append, List.length_cons]; omega
 have := h3 _ h1
 omega
structure Chos (τ σ : Sto) (m : Nat) (D : List Cl) (G : List (List Int)) : Prop where
 low : ∀ i, i < τ.length → σ[i]? = τ[i]?
 mt : τ.length ≤ m
 out : σ[m]? = some (ZkS D)
 got : ∀ d ∈ D, σ[d.q]? = some (gO (Zao d.g))
 mn : m ∉ ids D
 bd : ∀ i ∈ ids D, τ.length ≤ i
 nd : (ids D).Nodup
 eq : D.map (fun d => Zao d.g) = G
theorem Zg3 {τ : Sto} {l : List Pc} {f : SlF} (hv : ZJ l = true) (hl : l.length ≤ 300) {R : Zs}
  (next : ∀ σ' m D, Chos τ σ' m D (ZaG l) → R (.tup [.ref m D.length 0 D.length 1, .int .i64 0]) σ') : Run T (Ret [.tmp 2, .tmp 3] R) [.code Xq43.main] (mkE 46 [(0, pcA f l)]) τ := by
 have hF : ZG l := by unfold ZG; omega
 have hV := @ZbR f l hF
 rw [hv] at hV
 rw [Za Xq43.main.eq_1]
 simp (maxSteps := 2000000) only [go_sem, hV, Bool.not_true]
 refine ZkW hF (fun p hp => by have := (Zh7 hv).2 p hp; omega) fun σ' L hs ha hE hi => ?_
 obtain ⟨E, rfl⟩ := hE
 simp (maxSteps := 2000000) only [go_sem]
 have hz := Zlt hv
 rw [← ha] at hz
 have hLl : L.length = l.length := by
  have := congrArg List.length ha
  rwa [Zbu, List.length_map, ZfU] at this
 refine Zqe (σ0 := τ) (m0 := τ.length) (Nat.le_refl _) l.length L _ (by omega) hs hz (fun j hj => by have := hi j hj; omega) (fun i hi => List.getElem?_append_left hi) fun σ1 L1 hs1 ha1 hi1 hk1 => ?_
 rw [ha] at ha1
 have ha1' : Zbu L1 = Zm9 l := ha1
 have hh := hs1.hd
 have hn0 := hs1.nd
 have hlt := hs1.chn.lt
 rw [List.nodup_cons] at hn0
 have lh : τ.length < σ1.length := (List.getElem?_eq_some_iff.1 hh).1
 have g1 : (σ1 ++ [AObj.cells true []])[τ.length]? = some (.cells false [hdP L1]) := by rw [List.getElem?_append_left lh]; exact hh
 have hfo := Zf9 hv
 rw [← ha1'] at hfo
 have hcol : Col σ1.length τ.length τ (σ1 ++ [ZkS []]) [] L1 := by
  refine ⟨by simp, fun d hd => by simp at hd, hs1.chn.congr fun i hi => List.getElem?_append_left (hlt i hi), by simpa using hn0.2, fun hm => by have := hlt _ (by simpa using hm); omega, fun i hi => ?_, fun i hi => hi1 i (by simpa using hi), fun c hc => ?_, ?_⟩
  ·rw [List.getElem?_append_left (by omega)]; exact hk1 i hi
  ·have hcm : (c.g, c.nm) ∈ Zbu L1 := List.mem_map.2 ⟨c, by simpa using hc, rfl⟩
   refine ⟨?_, ZjU (f := fun x : Gr => x.1) hcm hfo.ok.nd⟩
   have := ZjV (f := fun x : Gr => x.1) hcm
   have h2 := (ZfD (l := l)).length_eq
   rw [List.length_map, List.length_range', ← ha1'] at h2
   exact Nat.le_trans this (by omega)
  ·have := ZjW hv
   rw [← ha1', Zbu, List.length_map] at this
   simp; omega
 simp (maxSteps := 2000000) only [go_sem, Za Xq43.c0.eq_1, Za Xq43.c1.eq_1, Za Xq43.c2.eq_1, Xq43.k0, Xq43.k1, g1]
 refine Zo1 (σ0 := τ) (m0 := τ.length) (by omega) L1 [] _ hcol fun σ2 hc2 => ?_
 have nx := next σ2 σ1.length (L1.filter fun c => decide (1 < c.g.length)) ⟨hc2.low, by omega, by have := hc2.out; rwa [List.nil_append] at this, by have := hc2.got; rwa [List.nil_append] at this, by have := hc2.mn; rwa [List.nil_append, List.append_nil] at this, by have := hc2.bd; rwa [List.nil_append, List.append_nil] at this, by have := hc2.nd; rwa [List.nil_append, List.append_nil] at this, ?_⟩
 ·simp (maxSteps := 2000000) only [go_sem, Za Xq43.c0.eq_1, Za Xq43.c1.eq_1, Za Xq43.c2.eq_1, Xq43.k0, Xq43.k1, List.nil_append]
  exact nx
 ·unfold ZaG
  rw [← ha1', Zbu, List.filter_map, List.map_map]; rfl
theorem ZjX {τ : Sto} {l : List Pc} {f : SlF} (hv : ZJ l = true) (hl : l.length ≤ 300) {Q : Zg} {kk : List Item} {os : List AOper} {d : Option Nat} {e : Env}
  (next : ∀ σ' m D, Chos τ σ' m D (ZaG l) → Run T Q (.ops os :: kk) (put e d (.tup [.ref m D.length 0 D.length 1, .int .i64 0])) σ') : Zp T Q kk os d e τ false i_Xq43 [pcA f l] := by
 unfold Zp
 rw [ZS T_Xq43 (by simp)]
 exact Zg3 hv hl (R := fun v σ' => Run T Q (.ops os :: kk) (put e d v) σ') next
theorem ZdH {τ : Sto} {l : List Pc} {f : SlF} (hF : ZG l) (hv : ZJ l = false) {R : Zs}
  (next : R (.tup [.nils, .int .i64 1]) τ) : Run T (Ret [.tmp 2, .tmp 3] R) [.code Xq43.main] (mkE 46 [(0, pcA f l)]) τ := by
 have hV := @ZbR f l hF
 rw [hv] at hV
 rw [Za Xq43.main.eq_1]
 simp (maxSteps := 2000000) only [go_sem, hV, Bool.not_false]
 exact next
theorem ZkR {τ : Sto} {l : List Pc} {f : SlF} (hF : ZG l) (hv : ZJ l = false) {Q : Zg} {kk : List Item} {os : List AOper} {d : Option Nat} {e : Env}
  (next : Run T Q (.ops os :: kk) (put e d (.tup [.nils, .int .i64 1])) τ) : Zp T Q kk os d e τ false i_Xq43 [pcA f l] := by
 unfold Zp
 rw [ZS T_Xq43 (by simp)]
 exact ZdH hF hv (R := fun v σ' => Run T Q (.ops os :: kk) (put e d v) σ') next
def flG (G : List (List Int)) : SlF := if G = [] then .nil else .lst
abbrev lsG (G : List (List Int)) : List (SlF × List Int) := G.map fun g => (SlF.lst, g)
abbrev Zho (G : List (List Int)) : AVal := grA (flG G) (lsG G)
theorem Zex {σ : Sto} {n : Nat} : ∀ {D : List Cl}, (∀ d ∈ D, σ[d.q]? = some (gO (Zao d.g))) → (D.map Zdk).mapM (Zn σ (n + 2)) = some ((D.map fun d => Zao d.g).map fun g => sv 1 .lst (g.map fun i => .int .i64 i))
 | [], _ => rfl
 | d :: D, h => by
  have h1 := Zfz (n := n) (h d List.mem_cons_self)
  rw [Zbt] at h1
  rw [List.map_cons, Zes, h1, Zex fun x hx => h x (List.mem_cons_of_mem _ hx)]
  rfl
theorem Zo0 {τ σ : Sto} {m n : Nat} {D : List Cl} {G : List (List Int)} (h : Chos τ σ m D G) : Zn σ (n + 3) (.ref m D.length 0 D.length 1) = some (Zho G) := by
 obtain ⟨-, -, h1, h2, -, -, -, h3⟩ := h
 have h0 : (AVal.ref m D.length 0 D.length 1).pure = false := by simp [AVal.names]
 rw [Zn, h0]
 have hl : (D.map Zdk).length = D.length := List.length_map ..
 simp only [Bool.false_eq_true, if_false, h1, hl, Nat.zero_add, Nat.mul_one, Nat.le_refl, Nat.zero_lt_one, and_self, if_true, Bool.true_and, List.drop_zero]
 rw [List.take_of_length_le (by rw [hl]; exact Nat.le_refl _), Zex h2, h3]
 cases D with
 | nil =>
  simp only [List.map_nil] at h3
  subst h3
  rfl
 | cons d D =>
  have hne : G ≠ [] := by rw [← h3]; simp
  have hG : G.length = D.length + 1 := by rw [← h3]; simp
  have hc := ZcW (G.map fun g => sv 1 .lst (g.map fun i => AVal.int .i64 i))
  rw [List.length_map, hG] at hc
  simp only [List.map_cons, List.isEmpty_cons, Bool.false_eq_true, if_false, Option.map_some, List.length_cons]
  rw [hc, Zho, grA, flG, if_neg hne, sv_lst, List.map_map]
  rfl
def Ze6 (l : List Pc) : List (List Int) := if ZJ l = true then ZaG l else []
def Ze7 (l : List Pc) : Int := if ZJ l = true then 0 else 1
theorem Zna {f : SlF} {l : List Pc} (hl : l.length ≤ 300) {lv : List Nat} {σ : Sto} {R : Zs} : Cw T true i_Xq43 [pcA f l] lv σ R ↔ R (.tup [Zho (Ze6 l), .int .i64 (Ze7 l)]) σ := by
 refine Zt T_Xq43 (by simp only [go_sem]) (by simp) ?_
 unfold Ze6 Ze7
 cases hv : ZJ l
 ·refine ZdH (by unfold ZG; omega) hv ?_
  simp (maxSteps := 2000000) only [go_sem]
  rfl
 ·refine Zg3 hv hl fun σ' m D h => ?_
  have := Zo0 (n := 60) h
  simp (maxSteps := 2000000) only [go_sem, this]
@[go_sem] theorem Znc {f : SlF} {l : List Pc} (hl : l.length ≤ 300) {Q : Zg} {k : List Item} {os : List AOper} {d : Option Nat} {e : Env} {σ : Sto} : Zp T Q k os d e σ true i_Xq43 [pcA f l] ↔ Run T Q (.ops os :: k) (put e d (.tup [Zho (Ze6 l), .int .i64 (Ze7 l)])) σ := Zna hl

theorem Znb {f : SlF} {l : List Pc} (hl : l.length ≤ 300) {lv : List Nat} {σ : Sto} {R : Zs} : Cw T true i_Xq52 [pcA f l] lv σ R ↔ R (.agg [Zho (Ze6 l), .nils, .int .i64 0, .int .i64 (Ze7 l)]) σ := by
 refine Zt T_Xq52 (by simp only [go_sem]) (by simp) ?_; rw [Za Xq52.main.eq_1]
 simp (maxSteps := 2000000) only [go_sem, ZcX (show l.length ≤ 100000 by omega), Znc hl]
 done
@[go_sem] theorem Ztp {f : SlF} {l : List Pc} (hl : l.length ≤ 300) {Q : Zg} {k : List Item} {os : List AOper} {d : Option Nat} {e : Env} {σ : Sto} : Zp T Q k os d e σ true i_Xq52 [pcA f l] ↔ Run T Q (.ops os :: k) (put e d (.agg [Zho (Ze6 l), .nils, .int .i64 0, .int .i64 (Ze7 l)])) σ := Znb hl

end Go.Abs
/- Walks of chapter 36: After, whole. -/
set_option linter.unusedSimpArgs false
set_option linter.unusedVariables false
set_option maxRecDepth 100000
set_option maxHeartbeats 8000000
namespace Go.Abs
open Go
attribute [local go_sem_proc] Nat.reduceLT Nat.reduceEqDiff Nat.reduceLeDiff Nat.reduceAdd Nat.reduceSub Nat.reduceMul Int.reduceLT Int.reduceLE Int.reduceEq Int.reduceNeg
attribute [local go_sem_proc ↓] reduceIte

theorem Zhf {l : List Pc} : ∀ {ps : List Pc} {ws : List (List Int)} {i : Nat}, (Zdn l ps ws i).length ≤ ps.length
 | [], ws, i => by simp [Zdn]
 | p :: ps, [], i => by simp [Zdn]
 | p :: ps, g :: ws, i => by
  have ih := Zhf (l := l) (ps := ps) (ws := ws) (i := i + 1)
  rw [Zdn, List.length_append, List.length_cons]
  split
  ·simp; omega
  ·split
   ·simp; omega
   ·simp; omega
theorem Zi0 {f fg : SlF} {l : List Pc} {G : List (SlF × List Int)} {V : AVal} (hn : l.length ≤ 512) (ho : ZdE l) (hG : G.length ≤ 1000000) (hGf : ∀ p ∈ G, ZG p.2) : ∀ k, k ≤ G.length → ∀ W : List (List Int), W.length = l.length → ZlG l.length W →
  (ZdL l.length W (G.drop k) = none → V = Zqu) → (∀ W', ZdL l.length W (G.drop k) = some W' → V = .tup [pcA (flP (Zdn l l W' 0)) (Zdn l l W' 0), .int .i64 0]) →
  Run T (Res [.tmp 4, .tmp 5] V) (.inLoop Xq54.b0 :: Xq54.k0) (mkE 84 [(2, .ptr 0 1 0), (6, .ref 1 l.length 0 l.length 1), (21, grA fg G), (22, .int .i64 G.length), (23, .int .i64 k)]) (aS f l W) := by
 have hl : ZG l := by show l.length < _; omega
 refine Zat (fun W hW hown h1 h2 => ?_) fun k hk ih W hW hown h1 h2 => ?_
 ·rw [List.drop_length] at h1 h2
  have hV := h2 W rfl
  subst hV
  have hout := Znw (f := f) (O := Zdn l l W 0) hn ho hW hown (by have := Zhf (l := l) (ps := l) (ws := W) (i := 0); omega) 0 (by omega) [] rfl
  rw [Zb, Za Xq54.b0.eq_1]
  simp (maxSteps := 2000000) only [go_sem, Za Xq54.c0.eq_1, Za Xq54.c1.eq_1, Za Xq54.c2.eq_1, Za Xq54.c3.eq_1, Za Xq54.c4.eq_1, Za Xq54.c5.eq_1, Za Xq54.c6.eq_1, Xq54.k0, Xq54.k1, Xq54.k2, Int.lt_irrefl]
  exact hout
 ·rw [List.drop_eq_getElem_cons hk, ZdL] at h1 h2
  have hg := hGf _ (List.getElem_mem hk)
  have hc := @Zid f G[k].1 l G[k].2 hl hg
  cases hgr : ZaN l.length G[k].2
  ·rw [if_neg (by rw [hgr]; decide)] at h1
   have hV := h1 rfl
   subst hV
   rw [Zb, Za Xq54.b0.eq_1]
   simp (maxSteps := 2000000) only [go_sem, hk, hc, hgr]
  ·rw [if_pos hgr] at h1 h2
   have hgr' := hgr
   rw [ZaN, Bool.and_eq_true, decide_eq_true_eq] at hgr'
   obtain ⟨g1, g2⟩ := hgr'
   have hin := Zpn (f := f) (fg := G[k].1) (f2 := fg) (l := l) (G := G) (g := G[k].2) (k := k) (V := V) hn hG (by
    rcases Zfj g1 (by omega) with h | h
    ·omega
    ·exact absurd h g2) hk g2 (fun i hi => by have := ZbC g1 i hi; omega) 0 (by omega) W hW (fun h => h1 (by rw [List.drop_zero] at h; rw [h]; rfl)) (fun W' hm => ?_)
   ·rw [Zb, Za Xq54.b0.eq_1]
    simp (maxSteps := 2000000) only [go_sem, hk, hc, hgr]
    exact hin
   ·rw [List.drop_zero] at hm
    rw [hm] at h1 h2
    exact ih W' (by rw [Zj7 hm]; exact hW) (ZlH hgr hown hm) h1 h2
def Z4 (l : List Pc) (G : List (SlF × List Int)) : Option (List Pc) := if ZJ l = true then (ZdL l.length (List.replicate l.length []) G).map fun W => Zdn l l W 0 else none
def Zdo (l : List Pc) (G : List (SlF × List Int)) : AVal := match Z4 l G with
 | none => Zqu
 | some O => .tup [pcA (flP O) O, .int .i64 0]
theorem Zsk {σ : Sto} {n : Nat} (h : n ≤ 1000000) : ZeF 1 24 [.nils] (.int .i64 n) (.int .i64 n) σ = some (.ref σ.length n 0 n 1, σ ++ [.cells false (List.replicate n .nils)]) := by
 have e : ∀ n : Nat, (List.replicate n [AVal.nils]).flatten = List.replicate n .nils := by
  intro n
  induction n with
  | zero => rfl
  | succ n ih => rw [List.replicate_succ, List.flatten_cons, ih]; rfl
 have e2 : IntKind.i64.max = 9223372036854775807 := by decide
 simp only [ZeF, e, e2, Int.toNat_natCast, Nat.mul_one]
 rw [if_pos ⟨by omega, by omega, by simp only [Zm]; omega, by omega⟩]
theorem ZnL {f fg : SlF} {l : List Pc} {G : List (SlF × List Int)} (hl : ZG l) (hG : G.length ≤ 1000000) (hGf : ∀ p ∈ G, ZG p.2) {lv : List Nat} {σ : Sto} {R : Zs} : Cw T true i_Xq54 [pcA f l, grA fg G] lv σ R ↔ R (Zdo l G) σ := by
 refine Zt T_Xq54 (by simp only [go_sem]) (by simp) ?_; rw [Za Xq54.main.eq_1]
 cases hv : ZJ l
 ·have e : Zdo l G = Zqu := by unfold Zdo Z4; rw [if_neg (by rw [hv]; decide)]
  rw [e]
  simp (maxSteps := 2000000) only [go_sem, ZbR hl, hv]
 ·obtain ⟨hn, ho⟩ := Zbr.1 hv
  have hgs := Zi0 (f := f) (fg := fg) (V := Zdo l G) hn ho hG hGf 0 (by omega) (List.replicate l.length []) (by simp) (fun w hw => .inl (List.mem_replicate.1 hw).2) (fun h => by unfold Zdo Z4; rw [if_pos hv]; rw [List.drop_zero] at h; rw [h]; rfl) (fun W' h => by unfold Zdo Z4; rw [if_pos hv]; rw [List.drop_zero] at h; rw [h]; rfl)
  have e : (List.replicate l.length ([] : List Int)).map Zcq = List.replicate l.length AVal.nils := by rw [List.map_replicate]; rfl
  simp only [aS, Zsg, e] at hgs
  simp (maxSteps := 2000000) only [go_sem, ZbR hl, hv, Zsk (show l.length ≤ 1000000 by omega)]
  exact hgs
@[go_sem] theorem ZnP {f fg : SlF} {l : List Pc} {G : List (SlF × List Int)} (hl : ZG l) (hG : G.length ≤ 1000000) (hGf : ∀ p ∈ G, ZG p.2) {Q : Zg} {k : List Item} {os : List AOper} {d : Option Nat} {e : Env} {σ : Sto} : Zp T Q k os d e σ true i_Xq54 [pcA f l, grA fg G] ↔ Run T Q (.ops os :: k) (put e d (Zdo l G)) σ := ZnL hl hG hGf


def Zdu (o : Option (List Pc)) : List Pc := o.getD []
def ZnM (o : Option (List Pc)) : Int := if o.isSome = true then 0 else 1
theorem ZnN {l : List Pc} {G : List (SlF × List Int)} : Zdo l G = .tup [pcA (flP (Zdu (Z4 l G))) (Zdu (Z4 l G)), .int .i64 (ZnM (Z4 l G))] := by
 unfold Zdo
 cases Z4 l G <;> rfl
theorem Zpt {l : List Pc} {G : List (SlF × List Int)} : (Zdu (Z4 l G)).length ≤ 512 := by
 unfold Z4
 by_cases hv : ZJ l = true
 ·rw [if_pos hv]
  have := (Zbr.1 hv).1
  cases h : ZdL l.length (List.replicate l.length []) G with
  | none => simp [Zdu]
  | some W =>
   have := Zhf (l := l) (ps := l) (ws := W) (i := 0)
   show (Zdn l l W 0).length ≤ 512
   omega
 ·rw [if_neg hv]; simp [Zdu]
theorem Zkd {fO : SlF} {O : List Pc} {e : Int} (hO : O.length ≤ 512) : ∀ i, i ≤ O.length → ∀ D, D ++ O.drop i = O →
  Run T (Res [.cell 4 true 4] (.agg [.nils, pcA (flP O) O, .int .i64 0, .int .i64 e])) (.inLoop Xq55.b0 :: Xq55.k0) (mkE 41 [(4, .ptr 0 4 0), (5, pcA fO O), (7, .ptr 2 4 0), (8, .int .i64 i)]) [.cells false [.nils, .nils, .int .i64 0, .int .i64 0], Znv D, .cells false [.nils, pcR 1 D, .int .i64 0, .int .i64 e]] := by
 refine Zat (fun D he => ?_) fun i hi ih D he => ?_
 ·rw [List.drop_length, List.append_nil] at he
  subst he
  rw [Zb, Za Xq55.b0.eq_1]
  simp (maxSteps := 2000000) only [go_sem, Za Xq55.c0.eq_1, Xq55.k0, Int.lt_irrefl]
  rw [Zib (n := 61) (o := 1) (D := D) rfl]
  rfl
 ·rw [List.drop_eq_getElem_cons hi] at he
  have w1 := Zj (show i < 9223372036854775807 by omega)
  have hD : D.length ≤ 512 := by have := congrArg List.length he; simp only [List.length_append, List.length_cons] at this; omega
  have ih' := ih (D ++ [O[i]]) (by rw [List.append_assoc]; exact he)
  have hu : ∀ D : List Pc, AVal.unders 3 (D.flatMap fun p => [AVal.int .i64 p.n, .int .i64 p.b]) = true := fun D => ZaF (fun _ => rfl) D
  rw [Zb, Za Xq55.b0.eq_1]
  simp (maxSteps := 2000000) only [go_sem, hi, w1]
  rw [ZiW (X := D) rfl rfl (by omega)]
  simp (maxSteps := 2000000) only [go_sem, w1, Za Xq55.c0.eq_1, Xq55.k0]
  exact ⟨hu _, ih'⟩
theorem ZnO {f fg : SlF} {l : List Pc} {G : List (SlF × List Int)} (hl : l.length ≤ 100000) (hG : G.length ≤ 1000000) (hGf : ∀ p ∈ G, ZG p.2) {lv : List Nat} {σ : Sto} {R : Zs} : Cw T true i_Xq55 [pcA f l, grA fg G] lv σ R ↔ R (.agg [.nils, pcA (flP (Zdu (Z4 l G))) (Zdu (Z4 l G)), .int .i64 0, .int .i64 (ZnM (Z4 l G))]) σ := by
 refine Zt T_Xq55 (by simp only [go_sem]) (by simp) ?_; rw [Za Xq55.main.eq_1]
 have hf : ZG l := by show l.length < _; omega
 have ho := Zpt (l := l) (G := G)
 have hc := @ZnP .lst fg l G hf hG hGf
 rw [ZnN] at hc
 generalize Zdu (Z4 l G) = O at *
 generalize ZnM (Z4 l G) = e0 at *
 have hal := Zkd (fO := flP O) (O := O) (e := e0) ho 0 (by omega) [] rfl
 simp (maxSteps := 2000000) only [go_sem, ZcX hl, hc]
 exact hal
@[go_sem] theorem ZnQ {f fg : SlF} {l : List Pc} {G : List (SlF × List Int)} (hl : l.length ≤ 100000) (hG : G.length ≤ 1000000) (hGf : ∀ p ∈ G, ZG p.2) {Q : Zg} {k : List Item} {os : List AOper} {d : Option Nat} {e : Env} {σ : Sto} : Zp T Q k os d e σ true i_Xq55 [pcA f l, grA fg G] ↔ Run T Q (.ops os :: k) (put e d (.agg [.nils, pcA (flP (Zdu (Z4 l G))) (Zdu (Z4 l G)), .int .i64 0, .int .i64 (ZnM (Z4 l G))])) σ := ZnO hl hG hGf

end Go.Abs
/- Chapter 36: merging a group keeps the sums. No program in sight. -/
set_option linter.unusedSimpArgs false
set_option linter.unusedVariables false
set_option maxRecDepth 100000
set_option maxHeartbeats 4000000
namespace Go.Abs
open Go

def ZbT (v : Pc → Int) (l : List Pc) : Int := (l.map v).sum
theorem ZbU {v : Pc → Int} {p : Pc} {l : List Pc} : ZbT v (p :: l) = v p + ZbT v l := by simp only [ZbT, List.map_cons, List.sum_cons]
theorem ZfX {v : Pc → Int} : ∀ {a b : List Pc}, ZbT v (a ++ b) = ZbT v a + ZbT v b
 | [], b => by simp [ZbT]
 | p :: a, b => by rw [List.cons_append, ZbU, ZbU, ZfX (a := a), Int.add_assoc]
def ZfY (g : List Int) (i : Nat) : List Int := g.filter fun j => decide ((i : Int) ≤ j)
theorem Zkb {n i : Nat} : ∀ {g : List Int} {last : Int}, isG n last g = true → (i : Int) ∈ g → ZfY g i = (i : Int) :: ZfY g (i + 1)
 | j :: g, last, h, hi => by
  rw [isG, Bool.and_eq_true] at h
  unfold ZfY
  rcases List.mem_cons.1 hi with e | hi'
  ·subst e
   have h2 := fun k hk => ZbC h.2 k hk
   rw [List.filter_cons_of_pos (by simp), List.filter_cons_of_neg (by simp; omega)]
   congr 1
   refine List.filter_congr fun k hk => ?_
   have := (h2 k hk).1
   have e1 : (i : Int) ≤ k := by omega
   have e2 : ((i + 1 : Nat) : Int) ≤ k := by omega
   rw [decide_eq_true e1, decide_eq_true e2]
  ·have hj := (ZbC h.2 _ hi').1
   rw [List.filter_cons_of_neg (by simp; omega), List.filter_cons_of_neg (by simp; omega)]
   exact Zkb h.2 hi'
theorem ZnH {i : Nat} {g : List Int} (hi : (i : Int) ∉ g) : ZfY g i = ZfY g (i + 1) := by
 refine List.filter_congr fun k hk => ?_
 have hne : k ≠ (i : Int) := fun e => hi (e ▸ hk)
 by_cases h : (i : Int) ≤ k
 ·have h2 : ((i + 1 : Nat) : Int) ≤ k := by omega
  rw [decide_eq_true h, decide_eq_true h2]
 ·have h2 : ¬ ((i + 1 : Nat) : Int) ≤ k := by omega
  rw [decide_eq_false h, decide_eq_false h2]
theorem ZnI {n : Nat} {g : List Int} {last : Int} (h : isG n last g = true) : ZfY g n = [] := by
 refine List.filter_eq_nil_iff.2 fun k hk => ?_
 have := (ZbC h k hk).2
 simp; omega
theorem ZnJ {n : Nat} {g : List Int} (h : isG n (-1) g = true) : ZfY g 0 = g := by
 refine List.filter_eq_self.2 fun k hk => ?_
 have := (ZbC h k hk).1
 simp; omega
theorem Zk2 {n : Nat} {g : List Int} {last : Int} (h : isG n last g = true) : ∀ i ∈ g, g.getD 0 0 ≤ i := by
 cases g with
 | nil => intro i hi; simp at hi
 | cons j g =>
  intro i hi
  rw [isG, Bool.and_eq_true] at h
  show j ≤ i
  rcases List.mem_cons.1 hi with rfl | hi
  ·exact Int.le_refl _
  ·have := (ZbC h.2 i hi).1; omega
theorem Zhe {g : List Int} (h : g ≠ []) : g.getD 0 0 ∈ g := by
 cases g with
 | nil => exact absurd rfl h
 | cons j g => exact List.mem_cons_self
def Zq0 (n : Nat) (g : List Int) (W : List (List Int)) : Prop := W.length = n ∧ ∀ i : Nat, i < n → W.getD i [] = if (i : Int) ∈ g then g else []
theorem ZlL {n : Nat} {g : List Int} : ∀ {r : List Int} {W : List (List Int)} {last : Int}, isG n last r = true → -1 ≤ last → W.length = n → (∀ i : Nat, last < i → W.getD i [] = []) →
  ∃ W', Zf5 g W r = some W' ∧ W'.length = n ∧ ∀ i : Nat, i < n → W'.getD i [] = if (i : Int) ∈ r then g else W.getD i []
 | [], W, last, _, _, hl, _ => ⟨W, rfl, hl, fun i _ => by simp⟩
 | j :: r, W, last, h, h1, hl, hw => by
  rw [isG, Bool.and_eq_true, decide_eq_true_eq] at h
  obtain ⟨⟨a1, a2⟩, a3⟩ := h
  obtain ⟨m, rfl⟩ := Int.eq_ofNat_of_zero_le (show 0 ≤ j by omega)
  obtain ⟨W', w1, w2, w3⟩ := ZlL (g := g) (W := W.set m g) a3 (by omega) (by rw [List.length_set]; exact hl) (fun i hi => by
   have hne : m ≠ i := by omega
   rw [List.getD_eq_getElem?_getD, List.getElem?_set, if_neg hne, ← List.getD_eq_getElem?_getD]
   exact hw i (by omega))
  refine ⟨W', ?_, w2, fun i hi => ?_⟩
  ·rw [Zf5, Int.toNat_natCast, if_pos (hw m (by omega))]
   exact w1
  ·rw [w3 i hi]
   by_cases hr : (i : Int) ∈ r
   ·rw [if_pos hr, if_pos (List.mem_cons_of_mem _ hr)]
   ·rw [if_neg hr]
    by_cases e : m = i
    ·subst e
     rw [if_pos List.mem_cons_self, List.getD_eq_getElem?_getD, List.getElem?_set, if_pos rfl, if_pos (by omega)]; rfl
    ·have hne : ¬ (i : Int) ∈ ((m : Int) :: r) := by
      intro hm
      rcases List.mem_cons.1 hm with h | h
      ·omega
      ·exact hr h
     rw [if_neg hne, List.getD_eq_getElem?_getD, List.getElem?_set, if_neg e, ← List.getD_eq_getElem?_getD]
theorem ZnK {n : Nat} {f : SlF} {g : List Int} (hg : ZaN n g = true) : ∃ W, ZdL n (List.replicate n []) [(f, g)] = some W ∧ Zq0 n g W := by
 have hg' := hg
 rw [ZaN, Bool.and_eq_true] at hg'
 have hrep : ∀ i : Nat, (List.replicate n ([] : List Int)).getD i [] = [] := by
  intro i
  rw [List.getD_eq_getElem?_getD, List.getElem?_replicate]
  split <;> rfl
 obtain ⟨W, h1, h2, h3⟩ := ZlL (g := g) (W := List.replicate n []) hg'.1 (by omega) (by simp) (fun i _ => hrep i)
 refine ⟨W, ?_, h2, fun i hi => by rw [h3 i hi, hrep]⟩
 simp only [ZdL, if_pos hg, h1, Option.bind_some]
theorem Zqx {v : Pc → Int} {l : List Pc} {g : List Int} {W : List (List Int)} (hg : ZaN l.length g = true) (hW : Zq0 l.length g W) : ∀ (c i : Nat), i + c = l.length →
  ZbT v (Zdn l (l.drop i) (W.drop i) i) + ZaO v l (ZfY g i) = ZbT v (l.drop i) + if (i : Int) ≤ g.getD 0 0 then v ⟨ZaO (·.n) l g, ZaO (·.b) l g⟩ else 0 := by
 have hg' := hg
 rw [ZaN, Bool.and_eq_true, decide_eq_true_eq] at hg'
 obtain ⟨g1, g2⟩ := hg'
 have hh := ZbC g1 _ (Zhe g2)
 intro c
 induction c with
 | zero =>
  intro i e
  have e' : i = l.length := by omega
  subst e'
  have hlt : ¬ ((l.length : Nat) : Int) ≤ g.getD 0 0 := by omega
  rw [List.drop_length, ZnI g1, if_neg hlt]
  cases W.drop l.length <;> rfl
 | succ c ih =>
  intro i e
  have hi : i < l.length := by omega
  have hiW : i < W.length := by rw [hW.1]; exact hi
  have ih' := ih (i + 1) (by omega)
  have hw := hW.2 i hi
  rw [List.getD_eq_getElem?_getD, List.getElem?_eq_getElem hiW, Option.getD_some] at hw
  rw [List.drop_eq_getElem_cons hi, List.drop_eq_getElem_cons hiW, Zdn, ZfX, ZbU]
  have hp : pAt l (i : Int) = l[i] := (Zfk (l := l) (i := (i : Int)) ⟨by omega, by omega⟩).symm
  by_cases hm : (i : Int) ∈ g
  ·rw [if_pos hm] at hw
   rw [hw, if_neg g2, Zkb g1 hm, Zcf, hp]
   by_cases he : g.getD 0 0 = (i : Int)
   ·have h1 : (i : Int) ≤ g.getD 0 0 := by omega
    have h2 : ¬ ((i + 1 : Nat) : Int) ≤ g.getD 0 0 := by omega
    rw [if_neg h2] at ih'
    rw [if_pos he, if_pos h1, ZbU]
    simp only [ZbT, List.map_nil, List.sum_nil] at ih' ⊢
    omega
   ·have hle := Zk2 g1 _ hm
    have h1 : ¬ (i : Int) ≤ g.getD 0 0 := by omega
    have h2 : ¬ ((i + 1 : Nat) : Int) ≤ g.getD 0 0 := by omega
    rw [if_neg h2] at ih'
    rw [if_neg he, if_neg h1]
    simp only [ZbT, List.map_nil, List.sum_nil] at ih' ⊢
    omega
  ·rw [if_neg hm] at hw
   have hne : g.getD 0 0 ≠ (i : Int) := fun e => hm (e ▸ Zhe g2)
   rw [hw, if_pos rfl, ZbU, ZnH hm]
   by_cases h1 : (i : Int) ≤ g.getD 0 0
   ·have h2 : ((i + 1 : Nat) : Int) ≤ g.getD 0 0 := by omega
    rw [if_pos h2] at ih'
    rw [if_pos h1]
    simp only [ZbT, List.map_nil, List.sum_nil] at ih' ⊢
    omega
   ·have h2 : ¬ ((i + 1 : Nat) : Int) ≤ g.getD 0 0 := by omega
    rw [if_neg h2] at ih'
    rw [if_neg h1]
    simp only [ZbT, List.map_nil, List.sum_nil] at ih' ⊢
    omega
theorem ZiZ {v : Pc → Int} {l : List Pc} {f : SlF} {g : List Int} (hv : ZJ l = true) (hg : ZaN l.length g = true) :
  (Z4 l [(f, g)]).isSome = true ∧ ZbT v (Zdu (Z4 l [(f, g)])) + ZaO v l g = ZbT v l + v ⟨ZaO (·.n) l g, ZaO (·.b) l g⟩ := by
 obtain ⟨W, h1, h2⟩ := ZnK (f := f) hg
 have hg' := hg
 rw [ZaN, Bool.and_eq_true, decide_eq_true_eq] at hg'
 obtain ⟨g1, g2⟩ := hg'
 have hh := ZbC g1 _ (Zhe g2)
 have ht := Zqx (v := v) hg h2 l.length 0 (by omega)
 rw [ZnJ g1, if_pos (by omega), List.drop_zero, List.drop_zero] at ht
 unfold Z4
 rw [if_pos hv, h1]
 exact ⟨rfl, ht⟩
theorem Zkc (l : List Pc) : ZbT (fun _ => 1) l = (l.length : Int) := by
 induction l with
 | nil => rfl
 | cons p l ih => rw [ZbU, ih, List.length_cons]; omega
theorem Zps (l : List Pc) (g : List Int) : ZaO (fun _ => 1) l g = (g.length : Int) := by
 induction g with
 | nil => rfl
 | cons p g ih => rw [Zcf, ih, List.length_cons]; omega
theorem ZlM (l : List Pc) : Zet l = 4096 * (l.length : Int) + ZdZ l := by
 induction l with
 | nil => rfl
 | cons p l ih => rw [ZhR, ih, List.length_cons]; simp only [ZdZ, List.map_cons, List.sum_cons]; omega
theorem Zk3 {l : List Pc} {f : SlF} {g : List Int} (hv : ZJ l = true) (hg : ZaN l.length g = true) {O : List Pc} (hO : O = Zdu (Z4 l [(f, g)])) :
  ZnM (Z4 l [(f, g)]) = 0 ∧ ZeZ O = ZeZ l ∧ ZdZ O = ZdZ l ∧ (O.length : Int) + g.length = l.length + 1 := by
 subst hO
 obtain ⟨h0, h1⟩ := ZiZ (v := fun p => p.n) (f := f) hv hg
 obtain ⟨_, h2⟩ := ZiZ (v := fun p => p.b) (f := f) hv hg
 obtain ⟨_, h3⟩ := ZiZ (v := fun _ => 1) (f := f) hv hg
 rw [Zkc, Zkc, Zps] at h3
 refine ⟨by unfold ZnM; rw [if_pos h0], ?_, ?_, h3⟩
 ·have h : ZbT (fun p => p.n) (Zdu (Z4 l [(f, g)])) + ZaO (fun p => p.n) l g = ZbT (fun p => p.n) l + ZaO (fun p => p.n) l g := h1
  show ZbT (fun p => p.n) _ = ZbT (fun p => p.n) _; omega
 ·have h : ZbT (fun p => p.b) (Zdu (Z4 l [(f, g)])) + ZaO (fun p => p.b) l g = ZbT (fun p => p.b) l + ZaO (fun p => p.b) l g := h2
  show ZbT (fun p => p.b) _ = ZbT (fun p => p.b) _; omega
end Go.Abs
/- Walks of chapter 36: the examples. -/
set_option linter.unusedSimpArgs false
set_option linter.unusedVariables false
set_option maxRecDepth 100000
set_option maxHeartbeats 4000000
namespace Go.Abs
open Go

theorem ZnR : ZfS T 1000 i_Xq41 [] AVal.isTrue = true := by kernel_rfl
theorem ZnS {lv : List Nat} {σ : Sto} {R : Zs} : Cw T true i_Xq41 [] lv σ R ↔ R (.bool true) σ := ZiN T_Xq41 rfl ZnR
@[go_sem] theorem Ztu {Q : Zg} {k : List Item} {os : List AOper} {d : Option Nat} {e : Env} {σ : Sto} : Zp T Q k os d e σ true i_Xq41 [] ↔ Run T Q (.ops os :: k) (put e d (.bool true)) σ := ZnS
end Go.Abs
/- Walks of chapter 36: CostSums. -/
set_option linter.unusedSimpArgs false
set_option linter.unusedVariables false
set_option maxRecDepth 100000
set_option maxHeartbeats 8000000
namespace Go.Abs
open Go
attribute [local go_sem_proc] Nat.reduceLT Nat.reduceEqDiff Nat.reduceLeDiff Nat.reduceAdd Nat.reduceSub Nat.reduceMul Int.reduceLT Int.reduceLE Int.reduceEq Int.reduceNeg
attribute [local go_sem_proc ↓] reduceIte

theorem Zk0 : ZfS T 100 i_Xq28 [.nils, .nils] AVal.isTrue = true := by kernel_rfl
theorem Zk1 : ZfS T 100 i_Xq29 [.nils, .nils] AVal.isTrue = true := by kernel_rfl
theorem ZnE {Q : Zg} {k : List Item} {os : List AOper} {d : Option Nat} {e : Env} {σ : Sto} : Zp T Q k os d e σ true i_Xq28 [.nils, .nils] ↔ Run T Q (.ops os :: k) (put e d (.bool true)) σ := ZiN T_Xq28 rfl Zk0
theorem ZnF {Q : Zg} {k : List Item} {os : List AOper} {d : Option Nat} {e : Env} {σ : Sto} : Zp T Q k os d e σ true i_Xq29 [.nils, .nils] ↔ Run T Q (.ops os :: k) (put e d (.bool true)) σ := ZiN T_Xq29 rfl Zk1
theorem ZiX {N E : Int} {lv : List Nat} {σ : Sto} {R : Zs} : Cw T true i_Xq57 [.agg [.nils, .nils, .int .i64 N, .int .i64 E], .agg [.nils, .nils, .int .i64 N, .int .i64 E]] lv σ R ↔ R (.bool true) σ := by
 refine Zt T_Xq57 (by simp only [go_sem]) (by simp) ?_; rw [Za Xq57.main.eq_1]
 simp (maxSteps := 2000000) only [go_sem, ZnE, ZnF, decide_true]
theorem Zqv {N E : Int} {Q : Zg} {k : List Item} {os : List AOper} {d : Option Nat} {e : Env} {σ : Sto} : Zp T Q k os d e σ true i_Xq57 [.agg [.nils, .nils, .int .i64 N, .int .i64 E], .agg [.nils, .nils, .int .i64 N, .int .i64 E]] ↔ Run T Q (.ops os :: k) (put e d (.bool true)) σ := ZiX

def stp (n d : Nat) : Nat → Nat → List Int
 | 0, _ => []
 | c + 1, i => if i < n then (i : Int) :: stp n d c (i + d) else []
theorem ZlJ {n d : Nat} (hd : 0 < d) : ∀ (c i : Nat) (last : Int), last < i → isG n last (stp n d c i) = true
 | 0, i, last, h => rfl
 | c + 1, i, last, h => by
  unfold stp
  split
  ·rename_i hi
   rw [isG, decide_eq_true ⟨h, by omega⟩, Bool.true_and]
   exact ZlJ hd c (i + d) i (by omega)
  ·rfl
abbrev Zj9 (D : List Int) : AObj := .cells false (D.map fun i => .int .i64 i)
theorem Zhd {z : List (Nat × Nat)} (hb : ∀ p ∈ z, p.1 < 256 ∧ p.2 < 256) : (Zcz z).length ≤ 60 ∧ ∀ p ∈ Zcz z, 1 ≤ p.n ∧ p.n ≤ 79 ∧ 0 ≤ p.b ∧ p.b ≤ 10200 := by
 refine ⟨by unfold Zcz; rw [List.length_map, List.length_take]; omega, fun p hp => ?_⟩
 obtain ⟨q, hq, rfl⟩ := List.mem_map.1 hp
 obtain ⟨h1, h2⟩ := hb q (List.mem_of_mem_take hq)
 have e3 : (4 : Int) ^ (q.1 % 4) = ((4 ^ (q.1 % 4) : Nat) : Int) := by rw [Int.natCast_pow]; rfl
 have e2 : 1 ≤ 4 ^ (q.1 % 4) ∧ 4 ^ (q.1 % 4) ≤ 64 := by
  rcases (by omega : q.1 % 4 = 0 ∨ q.1 % 4 = 1 ∨ q.1 % 4 = 2 ∨ q.1 % 4 = 3) with h | h | h | h <;> rw [h] <;> decide
 unfold mkP
 simp only [e3]
 generalize 4 ^ (q.1 % 4) = y at *
 omega
theorem Zka {z : List (Nat × Nat)} (hb : ∀ p ∈ z, p.1 < 256 ∧ p.2 < 256) : ZJ (Zcz z) = true := by
 obtain ⟨h1, h2⟩ := Zhd hb
 refine Zbr.2 ⟨by omega, fun p hp => ?_⟩
 have := h2 p hp
 omega
theorem Zie {l : List Pc} {v : Pc → Int} {M : Int} (hM : 0 ≤ M) : (∀ p ∈ l, 0 ≤ v p ∧ v p ≤ M) → 0 ≤ ZbT v l ∧ ZbT v l ≤ l.length * M := by
 induction l with
 | nil => intro _; simp [ZbT]
 | cons p l ih =>
  intro h
  have h1 := h p List.mem_cons_self
  have h2 := ih fun q hq => h q (List.mem_cons_of_mem _ hq)
  rw [ZbU, List.length_cons, Int.natCast_succ, Int.add_mul]
  omega

@[go_sem] theorem ZvB {o gen off : Nat} {σ : Sto} : Zcr 2 1 (.ptr o gen off) (.int .i64 0) σ = some (.ptr o gen (off + 0), σ) := rfl
@[go_sem] theorem ZvC {o gen off : Nat} {σ : Sto} : Zcr 2 1 (.ptr o gen off) (.int .i64 1) σ = some (.ptr o gen (off + 1), σ) := rfl
theorem freeze_ints {σ : Sto} {o : Nat} {g : List Int} (hσ : σ[o]? = some (Zj9 g)) : Zf6 (.ref o g.length 0 g.length 1) σ = some (Z3 .lst g, σ.set o .dead) := by
 have hl : (g.map fun i => AVal.int .i64 i).length = g.length := List.length_map ..
 have hp : AVal.pures (g.map fun i => AVal.int .i64 i) = true := Zb3 (fun _ => rfl) g
 simp only [Zf6, hσ, hl, hp, Nat.zero_add, Nat.mul_one, Nat.le_refl, true_and, and_self, Bool.false_and, List.drop_zero, Bool.false_eq_true, if_false, Nat.zero_lt_one, if_true]
 have hc := ZcW (g.map fun i => AVal.int .i64 i)
 rw [hl] at hc
 rw [List.take_of_length_le (by rw [hl]; exact Nat.le_refl _), hc, Z3, sv_lst]
abbrev kO (k0 k1 : Nat) : AObj := .cells false [.int .u8 (k0 : Int), .int .u8 (k1 : Int)]
theorem Zpp {l : List Pc} {k0 k1 : Nat} {g : List Int} {Q : Zg} (hl : l.length ≤ 60) (hk : k1 < 256)
  (next : Run T Q [.code Xq42.c0] (mkE 94 [(5, .bool true), (6, pcA .lst l), (7, .ref 1 g.length 0 g.length 1)]) [kO k0 k1, Zj9 g]) :
  ∀ (c i : Nat), l.length ≤ i + c → i ≤ 100 → ∀ D, D ++ stp l.length (1 + k1 % 5) c i = g → D.length ≤ i →
  Run T Q (.inLoop Xq42.b0 :: Xq42.k0) (mkE 94 [(3, .ptr 0 2 0), (5, .bool true), (6, pcA .lst l), (7, .ref 1 D.length 0 D.length 1), (8, .int .i64 i)]) [kO k0 k1, Zj9 D] := by
 have stop : ∀ (i : Nat) (D : List Int), l.length ≤ i → D = g → Run T Q (.inLoop Xq42.b0 :: Xq42.k0) (mkE 94 [(3, .ptr 0 2 0), (5, .bool true), (6, pcA .lst l), (7, .ref 1 D.length 0 D.length 1), (8, .int .i64 i)]) [kO k0 k1, Zj9 D] := by
  intro i D hi e
  subst e
  have h : ¬ i < l.length := by omega
  rw [Zb, Za Xq42.b0.eq_1]
  simp (maxSteps := 2000000) only [go_sem, h, Xq42.k0]
  exact next
 intro c
 induction c with
 | zero =>
  intro i hi _ D e _
  rw [stp, List.append_nil] at e
  exact stop i D (by omega) e
 | succ c ih =>
  intro i hi hi1 D e hD
  rw [stp] at e
  by_cases h : i < l.length
  ·rw [if_pos h] at e
   have h3 : ((k1 : Nat) : Int).tmod 5 = ((k1 % 5 : Nat) : Int) := rfl
   have w0 : IntKind.i64.wrap ((k1 % 5 : Nat) : Int) = ((k1 % 5 : Nat) : Int) := Zbc (by omega)
   have w1 : IntKind.i64.wrap (1 + ((k1 % 5 : Nat) : Int)) = ((1 + k1 % 5 : Nat) : Int) := by rw [Zi (by omega) (by omega)]; omega
   have w2 : IntKind.i64.wrap ((i : Int) + ((1 + k1 % 5 : Nat) : Int)) = ((i + (1 + k1 % 5) : Nat) : Int) := by rw [Zi (by omega) (by omega)]; omega
   have ih' := ih (i + (1 + k1 % 5)) (by omega) (by omega) (D ++ [(i : Int)]) (by rw [List.append_assoc]; exact e) (by simp; omega)
   rw [Zb, Za Xq42.b0.eq_1]
   simp (maxSteps := 2000000) only [go_sem, h]
   rw [Zdd (nl := false) (cs := D.map fun i => .int .i64 i) (v := .int .i64 (i : Int)) rfl rfl (by simp) rfl (by simp only [Zm]; omega)]
   have hm : D.map (fun i => AVal.int .i64 i) ++ [.int .i64 (i : Int)] = (D ++ [(i : Int)]).map fun i => .int .i64 i := by simp
   rw [hm]
   rw [List.length_append, List.length_cons, List.length_nil] at ih'
   simp (maxSteps := 2000000) only [go_sem, h3, w0, w1, w2]
   first | exact ih' | exact ⟨Zb3 (fun _ => rfl) _, ih'⟩
  ·rw [if_neg h, List.append_nil] at e
   exact stop i D (by omega) e

theorem Zpq {n o : Nat} {σ : Sto} {v : AVal} (hv : v.pure = true) (hσ : σ[o]? = some (.cells false [v]))   : Zab (n + 2) σ (.ref o 1 0 1 1) = some (.list 1 [v], σ.set o .dead) := by
 have h0 : (AVal.ref o 1 0 1 1).pure = false := by simp [AVal.names]
 have hp : AVal.pures [v] = true := by simp only [AVal.namesL, hv, Bool.true_and]
 rw [Zab, h0]
 simp only [Bool.false_eq_true, if_false, hσ, List.length_cons, List.length_nil, Nat.zero_add, Nat.one_mul, Nat.le_refl, true_and, and_self, if_true, deepL_pure hp, Bool.false_and, List.drop_zero, show (0 : Nat) < 1 by decide]
 rfl
theorem Zsj {a b : Int} {σ : Sto} : Zig true (.row [(0, 1, false, .int .i64), (1, 1, false, .int .i64)]) (.agg [.int .i64 a, .int .i64 b]) (.agg [.int .i64 a, .int .i64 b]) σ = some (.bool false, σ) := by
 simp [Zig, eqA, eqParts]
theorem ZiY {v : Pc → Int} {l : List Pc} (hv : ∀ p ∈ l, 0 ≤ v p) (h0 : 0 ≤ v ⟨0, 0⟩) : ∀ g : List Int, 0 ≤ ZaO v l g
 | [] => Int.le_refl _
 | i :: g => by
  have h1 := ZiY hv h0 g
  have h2 : 0 ≤ v (pAt l i) := by
   unfold pAt
   rw [List.getD_eq_getElem?_getD]
   cases h : l[i.toNat]? with
   | none => exact h0
   | some p => exact hv p (List.mem_of_getElem? h)
  rw [Zcf]; omega
theorem ZlK {l : List Pc} (h : ∀ p ∈ l, 0 ≤ p.n ∧ 0 ≤ p.b) : ∀ {ps : List Pc} {ws : List (List Int)} {i : Nat}, (∀ p ∈ ps, p ∈ l) → ∀ p ∈ Zdn l ps ws i, 0 ≤ p.n ∧ 0 ≤ p.b
 | [], ws, i, _, p, hp => by simp [Zdn] at hp
 | q :: ps, [], i, _, p, hp => by simp [Zdn] at hp
 | q :: ps, g :: ws, i, hps, p, hp => by
  rw [Zdn] at hp
  rcases List.mem_append.1 hp with hp | hp
  ·split at hp
   ·rw [List.mem_singleton.1 hp]; exact h q (hps q List.mem_cons_self)
   ·split at hp
    ·rw [List.mem_singleton.1 hp]
     exact ⟨ZiY (fun p hp => (h p hp).1) (by simp) g, ZiY (fun p hp => (h p hp).2) (by simp) g⟩
    ·simp at hp
  ·exact ZlK h (fun p hp => hps p (List.mem_cons_of_mem _ hp)) p hp
theorem Zqw {l : List Pc} {G : List (SlF × List Int)} (h : ∀ p ∈ l, 0 ≤ p.n ∧ 0 ≤ p.b) : ∀ p ∈ Zdu (Z4 l G), 0 ≤ p.n ∧ 0 ≤ p.b := by
 unfold Z4
 split
 ·cases hm : ZdL l.length (List.replicate l.length []) G with
  | none => intro p hp; simp [Zdu] at hp
  | some W => exact ZlK h (fun p hp => hp)
 ·intro p hp; simp [Zdu] at hp
theorem Zpr {l : List Pc} {k0 k1 : Nat} {g : List Int} (hl : l.length ≤ 60) (hp : ∀ p ∈ l, 1 ≤ p.n ∧ p.n ≤ 79 ∧ 0 ≤ p.b ∧ p.b ≤ 10200) (hg : isG l.length (-1) g = true) :
  Run T (Res [.tmp 4] (.bool true)) [.code Xq42.c0] (mkE 94 [(5, .bool true), (6, pcA .lst l), (7, .ref 1 g.length 0 g.length 1)]) [kO k0 k1, Zj9 g] := by
 have hv : ZJ l = true := Zbr.2 ⟨by omega, fun p h => by have := hp p h; omega⟩
 have hf : ZG l := by show l.length < _; omega
 simp (maxSteps := 2000000) only [go_sem, Za Xq42.c0.eq_1]
 rw [freeze_ints rfl]
 by_cases hne : g = []
 ·have hz : ((g.length : Nat) : Int) = 0 := by rw [hne]; rfl
  simp (maxSteps := 2000000) only [go_sem, hz]
 ·have hgr : ZaN l.length g = true := by rw [ZaN, hg, decide_eq_true hne]; rfl
  have hglen : g.length ≤ 60 := by
   rcases Zfj hg (by omega) with h | h
   ·omega
   ·exact absurd h hne
  have hg0 : 0 < g.length := List.length_pos_iff.2 hne
  have hz : ¬ ((g.length : Nat) : Int) = 0 := by omega
  obtain ⟨O, hO⟩ : ∃ O, O = Zdu (Z4 l [(.lst, g)]) := ⟨_, rfl⟩
  obtain ⟨m0, m1, m2, m3⟩ := Zk3 (f := .lst) hv hgr hO
  have hca := fun {Q k os d e σ} => @ZnQ .lst .lst l [(.lst, g)] (by omega) (by simp) (fun p h => by rw [List.mem_singleton.1 h]; show g.length < _; omega) Q k os d e σ
  rw [← hO, m0, grA, List.map_cons, List.map_nil, sv_lst] at hca
  obtain ⟨b1, b2⟩ := Zie (l := l) (v := fun p => p.n) (M := 79) (by omega) (fun p h => by have := hp p h; omega)
  obtain ⟨b3, b4⟩ := Zie (l := l) (v := fun p => p.b) (M := 10200) (by omega) (fun p h => by have := hp p h; omega)
  have b1 : 0 ≤ ZeZ l := b1
  have b2 : ZeZ l ≤ l.length * 79 := b2
  have b3 : 0 ≤ ZdZ l := b3
  have b4 : ZdZ l ≤ l.length * 10200 := b4
  have sl : SmallL l := ⟨by omega, fun p h => by have := hp p h; omega, by omega, by omega⟩
  have hOl : O.length ≤ 60 := by omega
  have sO : SmallL O := ⟨by omega, by rw [hO]; exact Zqw fun p h => by have := hp p h; omega, by omega, by omega⟩
  have ht1 := fun {Q k os d e σ} => @ZhT .lst l sl Q k os d e σ
  have ht2 := fun {Q k os d e σ} => @ZhT (flP O) O sO Q k os d e σ
  rw [m1, m2] at ht2
  have hr1 := fun {Q k os d e σ} => @ZhS .lst l (by omega) Q k os d e σ
  have hr2 := fun {Q k os d e σ} => @ZhS (flP O) O (by omega) Q k os d e σ
  have hvO := fun {Q k os d e σ} => @ZmM (flP O) O (by show O.length < _; omega) Q k os d e σ
  have rn1 : ZgV l = Zet l := if_pos hv
  have re1 : ZgW l = 0 := if_pos hv
  have w1 : IntKind.i64.wrap ((l.length : Int) - (g.length : Int)) = (l.length : Int) - (g.length : Int) := Zi (by omega) (by omega)
  have w2 : IntKind.i64.wrap ((l.length : Int) - (g.length : Int) + 1) = (O.length : Int) := by rw [Zi (by omega) (by omega)]; omega
  simp (maxSteps := 2000000) only [go_sem, hz]
  rw [Zpq (n := 62) (o := 2) (v := Z3 .lst g) Zde rfl]
  simp (maxSteps := 2000000) only [go_sem, hca, hr1, hr2, ht1, ht2, rn1, re1, w1, w2, Zsj]
  cases hvo : ZJ O
  ·simp (maxSteps := 2000000) only [go_sem, hvO, hvo]
  ·have rn2 : ZgV O = Zet O := if_pos hvo
   have re2 : ZgW O = 0 := if_pos hvo
   have e1 := ZlM l
   have e2 := ZlM O
   rw [m2] at e2
   have w3 : IntKind.i64.wrap ((g.length : Int) - 1) = (g.length : Int) - 1 := Zi (by omega) (by omega)
   have w4 : IntKind.i64.wrap (4096 * ((g.length : Int) - 1)) = 4096 * ((g.length : Int) - 1) := Zi (by omega) (by omega)
   have w5 : IntKind.i64.wrap (Zet l - 4096 * ((g.length : Int) - 1)) = Zet O := by rw [Zi (by omega) (by omega)]; omega
   simp (maxSteps := 2000000) only [go_sem, hvO, hvo, hr2, rn2, re2, w3, w4, w5, Zqv]
theorem ZnG {f : SlF} {z : List (Nat × Nat)} {k0 k1 : Nat} (hz : z.length < 9223372036854775808) (hb : ∀ p ∈ z, p.1 < 256 ∧ p.2 < 256) (h0 : k0 < 256) (h1 : k1 < 256) {lv : List Nat} {σ : Sto} {R : Zs} : Cw T true i_Xq42 [ZgX f z, .agg [.int .u8 (k0 : Int), .int .u8 (k1 : Int)]] lv σ R ↔ R (.bool true) σ := by
 refine Zt T_Xq42 (by simp only [go_sem]) (by simp) ?_; rw [Za Xq42.main.eq_1]
 obtain ⟨hl, hp⟩ := Zhd hb
 have hm := fun {Q k os d e σ} => @ZhU f z hz hb Q k os d e σ
 generalize Zcz z = l at *
 have h3 : ((k0 : Nat) : Int).tmod 8 = ((k0 % 8 : Nat) : Int) := rfl
 have w0 : IntKind.i64.wrap ((k0 % 8 : Nat) : Int) = ((k0 % 8 : Nat) : Int) := Zbc (by omega)
 have hend := Zpr (l := l) (k0 := k0) (k1 := k1) (g := stp l.length (1 + k1 % 5) 60 (k0 % 8)) hl hp (ZlJ (by omega) 60 (k0 % 8) (-1) (by omega))
 have hloop := Zpp (k0 := k0) hl h1 hend 60 (k0 % 8) (by omega) (by omega) [] rfl (by simp)
 simp only [List.length_nil] at hloop
 simp (maxSteps := 2000000) only [go_sem, hm, h3, w0]
 exact hloop
@[go_sem] theorem Ztt {f : SlF} {z : List (Nat × Nat)} {k0 k1 : Nat} (hz : z.length < 9223372036854775808) (hb : ∀ p ∈ z, p.1 < 256 ∧ p.2 < 256) (h0 : k0 < 256) (h1 : k1 < 256) {Q : Zg} {k : List Item} {os : List AOper} {d : Option Nat} {e : Env} {σ : Sto} : Zp T Q k os d e σ true i_Xq42 [ZgX f z, .agg [.int .u8 (k0 : Int), .int .u8 (k1 : Int)]] ↔ Run T Q (.ops os :: k) (put e d (.bool true)) σ := ZnG hz hb h0 h1

end Go.Abs
/- Walks of chapter 36: answers are compared. -/
set_option linter.unusedSimpArgs false
set_option linter.unusedVariables false
set_option maxRecDepth 100000
set_option maxHeartbeats 4000000
namespace Go.Abs
open Go
attribute [local go_sem_proc] Nat.reduceLT Nat.reduceEqDiff Nat.reduceLeDiff Nat.reduceAdd Nat.reduceSub Nat.reduceMul Int.reduceLT Int.reduceLE Int.reduceEq Int.reduceNeg
attribute [local go_sem_proc ↓] reduceIte

theorem Zm0 {f g : SlF} {a b : List Int} (ha : ZG a) (hl : a.length = b.length) : ∀ i, i ≤ a.length →
  Run T (Res [.tmp 4] (.bool (decide (a.drop i = b.drop i)))) (.inLoop Xq66.b0 :: Xq66.k0) (mkE 26 [(0, Z3 f a), (1, Z3 g b), (5, .int .i64 i)]) [] := by
 refine Zat ?_ fun i hi ih => ?_
 ·rw [Zb, Za Xq66.b0.eq_1]
  simp (maxSteps := 2000000) only [go_sem, Za Xq66.c0.eq_1, Za Xq66.c1.eq_1, Xq66.k0, List.drop_length, show List.drop a.length b = [] by rw [hl]; exact List.drop_length]
 ·rw [Zb, Za Xq66.b0.eq_1]
  have hb : i < b.length := by omega
  rw [List.drop_eq_getElem_cons hi, List.drop_eq_getElem_cons hb]
  simp only [List.cons.injEq]
  by_cases h : a[i] = b[i]
  ·simp (maxSteps := 2000000) only [go_sem, hi, hb, h, Zj (show i < 9223372036854775807 by omega)]
   exact ih
  ·simp (maxSteps := 2000000) only [go_sem, hi, hb, h]
theorem Zm1 {f g : SlF} {a b : List Int} (ha : ZG a) (hb : ZG b) {lv : List Nat} {σ : Sto} {R : Zs} : Cw T true i_Xq66 [Z3 f a, Z3 g b] lv σ R ↔ R (.bool (decide (a = b))) σ := by
 refine Zt T_Xq66 (by simp only [go_sem]) (by simp) ?_; rw [Za Xq66.main.eq_1]
 by_cases hl : a.length = b.length
 ·simp (maxSteps := 2000000) only [go_sem, hl]
  have := Zm0 (f := f) (g := g) ha hl 0 (by omega)
  simp only [List.drop_zero] at this
  exact this
 ·have h1 : ¬ (a.length : Int) = b.length := by omega
  have h2 : a ≠ b := fun e => hl (by rw [e])
  simp (maxSteps := 2000000) only [go_sem, h1, h2]
@[go_sem] theorem Zm7 {f g : SlF} {a b : List Int} (ha : ZG a) (hb : ZG b) {Q : Zg} {k : List Item} {os : List AOper} {d : Option Nat} {e : Env} {σ : Sto} : Zp T Q k os d e σ true i_Xq66 [Z3 f a, Z3 g b] ↔ Run T Q (.ops os :: k) (put e d (.bool (decide (a = b)))) σ := Zm1 ha hb

abbrev Zec (G : List (SlF × List Int)) : Prop := ZG G ∧ ∀ p ∈ G, ZG p.2
theorem Zm2 {f g : SlF} {a b : List (SlF × List Int)} (ha : Zec a) (hb : Zec b) (hl : a.length = b.length) : ∀ i, i ≤ a.length →
  Run T (Res [.tmp 4] (.bool (decide ((a.drop i).map Prod.snd = (b.drop i).map Prod.snd)))) (.inLoop Xq28.b0 :: Xq28.k0) (mkE 27 [(0, grA f a), (1, grA g b), (5, .int .i64 i)]) [] := by
 have ha3 := ha.1
 refine Zat ?_ fun i hi ih => ?_
 ·rw [Zb, Za Xq28.b0.eq_1]
  simp (maxSteps := 2000000) only [go_sem, Za Xq28.c0.eq_1, Za Xq28.c1.eq_1, Xq28.k0, List.drop_length, show List.drop a.length b = [] by rw [hl]; exact List.drop_length]
 ·rw [Zb, Za Xq28.b0.eq_1]
  have hbi : i < b.length := by omega
  rw [List.drop_eq_getElem_cons hi, List.drop_eq_getElem_cons hbi]
  simp only [List.map_cons, List.cons.injEq]
  have hc := @Zm7 a[i].1 b[i].1 a[i].2 b[i].2 (ha.2 _ (List.getElem_mem hi)) (hb.2 _ (List.getElem_mem hbi))
  by_cases h : a[i].2 = b[i].2
  ·have hd : decide (a[i].2 = b[i].2) = true := by simp [h]
   simp (maxSteps := 2000000) only [go_sem, hi, hbi, hc, hd, eq_true h, true_and, Zj (show i < 9223372036854775807 by omega)]
   exact ih
  ·have hd : decide (a[i].2 = b[i].2) = false := by simp [h]
   simp (maxSteps := 2000000) only [go_sem, hi, hbi, hc, hd, eq_false h, false_and]
theorem Zm3 {f g : SlF} {a b : List (SlF × List Int)} (ha : Zec a) (hb : Zec b) {lv : List Nat} {σ : Sto} {R : Zs} : Cw T true i_Xq28 [grA f a, grA g b] lv σ R ↔ R (.bool (decide (a.map Prod.snd = b.map Prod.snd))) σ := by
 refine Zt T_Xq28 (by simp only [go_sem]) (by simp) ?_; rw [Za Xq28.main.eq_1]
 by_cases hl : a.length = b.length
 ·simp (maxSteps := 2000000) only [go_sem, hl]
  have := Zm2 (f := f) (g := g) ha hb hl 0 (by omega)
  simp only [List.drop_zero] at this
  exact this
 ·have h1 : ¬ (a.length : Int) = b.length := by omega
  have h2 : a.map Prod.snd ≠ b.map Prod.snd := fun e => hl (by simpa using congrArg List.length e)
  simp (maxSteps := 2000000) only [go_sem, h1, h2]
@[go_sem] theorem Zh6 {f g : SlF} {a b : List (SlF × List Int)} (ha : Zec a) (hb : Zec b) {Q : Zg} {k : List Item} {os : List AOper} {d : Option Nat} {e : Env} {σ : Sto} : Zp T Q k os d e σ true i_Xq28 [grA f a, grA g b] ↔ Run T Q (.ops os :: k) (put e d (.bool (decide (a.map Prod.snd = b.map Prod.snd)))) σ := Zm3 ha hb

@[go_sem] theorem Zu9 {neg : Bool} {a b c d : Int} {σ : Sto} : Zig neg (.row [(0, 1, false, .int .i64), (1, 1, false, .int .i64)]) (.agg [.int .i64 a, .int .i64 b]) (.agg [.int .i64 c, .int .i64 d]) σ = some (.bool (if neg = true then !decide ((⟨a, b⟩ : Pc) = ⟨c, d⟩) else decide ((⟨a, b⟩ : Pc) = ⟨c, d⟩)), σ) := by
 have : eqA (.row [(0, 1, false, .int .i64), (1, 1, false, .int .i64)]) (.agg [.int .i64 a, .int .i64 b]) (.agg [.int .i64 c, .int .i64 d]) = some (decide ((⟨a, b⟩ : Pc) = ⟨c, d⟩)) := by
  rw [eqA, eqParts]
  simp only [Pc.mk.injEq, eqA, eqParts, List.getElem?_cons_zero, List.getElem?_cons_succ, Bool.false_eq_true, if_false, if_true]
  cases h1 : decide (a = c) <;> cases h2 : decide (b = d) <;> simp_all
 simp only [Zig, this]
 cases neg <;> rfl
theorem Zm4 {f g : SlF} {a b : List Pc} (ha : ZG a) (hl : a.length = b.length) : ∀ i, i ≤ a.length →
  Run T (Res [.tmp 4] (.bool (decide (a.drop i = b.drop i)))) (.inLoop Xq29.b0 :: Xq29.k0) (mkE 26 [(0, pcA f a), (1, pcA g b), (5, .int .i64 i)]) [] := by
 refine Zat ?_ fun i hi ih => ?_
 ·rw [Zb, Za Xq29.b0.eq_1]
  simp (maxSteps := 2000000) only [go_sem, Za Xq29.c0.eq_1, Za Xq29.c1.eq_1, Xq29.k0, List.drop_length, show List.drop a.length b = [] by rw [hl]; exact List.drop_length]
 ·rw [Zb, Za Xq29.b0.eq_1]
  have hb : i < b.length := by omega
  rw [List.drop_eq_getElem_cons hi, List.drop_eq_getElem_cons hb]
  simp only [List.cons.injEq]
  by_cases h : a[i] = b[i]
  ·have hd : decide ((⟨a[i].n, a[i].b⟩ : Pc) = ⟨b[i].n, b[i].b⟩) = true := decide_eq_true h
   simp (maxSteps := 2000000) only [go_sem, hi, hb, h, Zj (show i < 9223372036854775807 by omega)]
   exact ih
  ·have hd : decide ((⟨a[i].n, a[i].b⟩ : Pc) = ⟨b[i].n, b[i].b⟩) = false := decide_eq_false h
   simp (maxSteps := 2000000) only [go_sem, hi, hb, h, hd]
theorem Zm5 {f g : SlF} {a b : List Pc} (ha : ZG a) (hb : ZG b) {lv : List Nat} {σ : Sto} {R : Zs} : Cw T true i_Xq29 [pcA f a, pcA g b] lv σ R ↔ R (.bool (decide (a = b))) σ := by
 refine Zt T_Xq29 (by simp only [go_sem]) (by simp) ?_; rw [Za Xq29.main.eq_1]
 by_cases hl : a.length = b.length
 ·simp (maxSteps := 2000000) only [go_sem, hl]
  have := Zm4 (f := f) (g := g) ha hl 0 (by omega)
  simp only [List.drop_zero] at this
  exact this
 ·have h1 : ¬ (a.length : Int) = b.length := by omega
  have h2 : a ≠ b := fun e => hl (by rw [e])
  simp (maxSteps := 2000000) only [go_sem, h1, h2]
@[go_sem] theorem Zm8 {f g : SlF} {a b : List Pc} (ha : ZG a) (hb : ZG b) {Q : Zg} {k : List Item} {os : List AOper} {d : Option Nat} {e : Env} {σ : Sto} : Zp T Q k os d e σ true i_Xq29 [pcA f a, pcA g b] ↔ Run T Q (.ops os :: k) (put e d (.bool (decide (a = b)))) σ := Zm5 ha hb

abbrev Zqd (fg : SlF) (G : List (SlF × List Int)) (fl : SlF) (l : List Pc) (n e : Int) : AVal := .agg [grA fg G, pcA fl l, .int .i64 n, .int .i64 e]
theorem Zm6 {fg fh : SlF} {G H : List (SlF × List Int)} {fl fm : SlF} {l m : List Pc} {n n' q q' : Int} (hG : Zec G) (hH : Zec H) (hl : ZG l) (hm : ZG m) {lv : List Nat} {σ : Sto} {R : Zs} : Cw T true i_Xq57 [Zqd fg G fl l n q, Zqd fh H fm m n' q'] lv σ R ↔ R (.bool (decide (q = q') && decide (n = n') && decide (G.map Prod.snd = H.map Prod.snd) && decide (l = m))) σ := by
 refine Zt T_Xq57 (by simp only [go_sem]) (by simp) ?_; rw [Za Xq57.main.eq_1]
 have h1 := @Zh6 fg fh G H hG hH
 have h2 := @Zm8 fl fm l m hl hm
 by_cases c1 : q = q' <;> by_cases c2 : n = n' <;> by_cases c3 : G.map Prod.snd = H.map Prod.snd
 all_goals simp (maxSteps := 2000000) only [go_sem, h1, h2, c1, c2, c3, decide_true, decide_false, Bool.true_and, Bool.false_and]
@[go_sem] theorem Zto {fg fh : SlF} {G H : List (SlF × List Int)} {fl fm : SlF} {l m : List Pc} {n n' q q' : Int} (hG : Zec G) (hH : Zec H) (hl : ZG l) (hm : ZG m) {Q : Zg} {k : List Item} {os : List AOper} {d : Option Nat} {e : Env} {σ : Sto} : Zp T Q k os d e σ true i_Xq57 [Zqd fg G fl l n q, Zqd fh H fm m n' q'] ↔ Run T Q (.ops os :: k) (put e d (.bool (decide (q = q') && decide (n = n') && decide (G.map Prod.snd = H.map Prod.snd) && decide (l = m)))) σ := Zm6 hG hH hl hm

end Go.Abs
/- Chapter 36, plain: what is chosen. -/
set_option linter.unusedSimpArgs false
set_option linter.unusedVariables false
set_option maxRecDepth 100000
set_option maxHeartbeats 4000000
namespace Go.Abs
open Go

theorem Zg1 {l : List Pc} (hv : ZJ l = true) : ∀ g ∈ ZaG l, 4 ≤ g.length := by
 intro g hg
 obtain ⟨x, hx, rfl⟩ := List.mem_map.1 hg
 obtain ⟨h1, h2⟩ := List.mem_filter.1 hx
 have := (Zf9 hv).ok.len x h1
 rw [Zbt]
 simp only [decide_eq_true_eq] at h2
 omega
def Zh5 (l : List Gr) : Prop := ∃ x ∈ l, 4 ≤ x.1.length
theorem Zh5.step {l l' : List Gr} (h : Zh5 l) (hs : Zb5 l = some l') : Zh5 l' := by
 obtain ⟨k, A, B1, B2, B3, S, c0, c1, c2, c3, hk, hm, ⟨rfl, -, -, -, -, -, -, -, -⟩, rfl⟩ := Zez hs
 obtain ⟨x, hx, h4⟩ := h
 have hp : (Zc1 c0 c1 c2 c3).1.length = c0.1.length + c1.1.length + c2.1.length + c3.1.length := by simp [Zc1, Zg6]; omega
 by_cases hc : x = c0 ∨ x = c1 ∨ x = c2 ∨ x = c3
 ·refine ⟨Zc1 c0 c1 c2 c3, by simp, ?_⟩
  rcases hc with rfl | rfl | rfl | rfl <;> omega
 ·exact ⟨x, by simp at hx ⊢; grind, h4⟩
theorem Zh5.run : ∀ {m : Nat} {l : List Gr}, Zh5 l → Zh5 (Zey m l)
 | 0, _, h => h
 | m + 1, l, h => by
  unfold Zey
  split
  ·exact h
  ·rename_i hs; exact (h.step hs).run
end Go.Abs
/- Walks of chapter 36: what merging costs, and what is worth it. -/
set_option linter.unusedSimpArgs false
set_option linter.unusedVariables false
set_option maxRecDepth 100000
set_option maxHeartbeats 8000000
namespace Go.Abs
open Go
attribute [local go_sem_proc] Nat.reduceLT Nat.reduceEqDiff Nat.reduceLeDiff Nat.reduceAdd Nat.reduceSub Nat.reduceMul Int.reduceLT Int.reduceLE Int.reduceEq Int.reduceNeg
attribute [local go_sem_proc ↓] reduceIte

theorem ZmT {f fg : SlF} {l : List Pc} {g : List Int} {fn : FuncId} {v : Pc → Int} (hg : g.length ≤ 100000) (hi : ∀ i ∈ g, 0 ≤ i ∧ i < l.length) (hv : ∀ p ∈ l, 0 ≤ v p ∧ v p ≤ 3000000000)
  (hc : ∀ {i : Int}, 0 ≤ i ∧ i < l.length → ∀ {Q : Zg} {k : List Item} {os : List AOper} {d : Option Nat} {e : Env} {σ : Sto}, Zp T Q k os d e σ true fn [.int .i64 i, .fptr [pcA f l]] ↔ Run T Q (.ops os :: k) (put e d (.int .i64 (v (pAt l i)))) σ) :
  ∀ k, k ≤ g.length → ∀ c : Int, 0 ≤ c → c ≤ k * 3000000000 → c + ZaO v l (g.drop k) = ZaO v l g →
  Run T (Res [.tmp 4] (.int .i64 (ZaO v l g))) (.inLoop Xq33.b0 :: Xq33.k0) (mkE 21 [(1, .clo (.func fn) [] [.fptr [pcA f l]]), (5, .int .i64 c), (8, Z3 fg g), (9, .int .i64 g.length), (10, .int .i64 k)]) [] := by
 refine Zat (fun c h0 h1 e => ?_) fun k hk ih c h0 h1 e => ?_
 ·rw [List.drop_length, show ZaO v l [] = 0 from rfl, Int.add_zero] at e
  subst e
  rw [Zb, Za Xq33.b0.eq_1]
  simp (maxSteps := 2000000) only [go_sem, Za Xq33.c0.eq_1, Za Xq33.c1.eq_1, Xq33.k0, Int.lt_irrefl]
 ·rw [List.drop_eq_getElem_cons hk, Zcf] at e
  have hr := hi _ (List.getElem_mem hk)
  obtain ⟨v0, v1⟩ := hv _ (Zgc hr)
  have w1 := Zj (show k < 9223372036854775807 by omega)
  have w3 : IntKind.i64.wrap (c + v (pAt l g[k])) = c + v (pAt l g[k]) := Zi (by omega) (by omega)
  have ih' := ih (c + v (pAt l g[k])) (by omega) (by rw [Int.natCast_succ, Int.add_mul]; omega) (by rw [← e, Int.add_assoc])
  have hc' := @hc g[k] hr
  rw [Zb, Za Xq33.b0.eq_1]
  simp (maxSteps := 2000000) only [go_sem, hk, w1, w3, hc']
  exact ih'
def mB (p : Pc) : Int := 4096 + 2 * p.b
theorem ZmU {f : SlF} {l : List Pc} {i : Int} (ho : ZdE l) (h : 0 ≤ i ∧ i < l.length) {lv : List Nat} {σ : Sto} {R : Zs} : Cw T true i_Xq38 [.int .i64 i, .fptr [pcA f l]] lv σ R ↔ R (.int .i64 (mB (pAt l i))) σ := by
 refine Zt T_Xq38 (by simp only [go_sem]) (by simp) ?_; rw [Za Xq38.main.eq_1]
 have a1 := fun {σ : Sto} => @Zeq σ 2 f Pc (fun p => .agg [.int .i64 p.n, .int .i64 p.b]) l .i64 i h.1 (by omega)
 simp only [Zfk h] at a1
 have := ho _ (Zgc h)
 have w1 : IntKind.i64.wrap (2 * (pAt l i).b) = 2 * (pAt l i).b := Zi (by omega) (by omega)
 have w2 : IntKind.i64.wrap (4096 + 2 * (pAt l i).b) = mB (pAt l i) := Zi (by omega) (by omega)
 simp (maxSteps := 2000000) only [go_sem, a1, w1, w2]
@[go_sem] theorem ZmY {f : SlF} {l : List Pc} {i : Int} (ho : ZdE l) (h : 0 ≤ i ∧ i < l.length) {Q : Zg} {k : List Item} {os : List AOper} {d : Option Nat} {e : Env} {σ : Sto} : Zp T Q k os d e σ true i_Xq38 [.int .i64 i, .fptr [pcA f l]] ↔ Run T Q (.ops os :: k) (put e d (.int .i64 (mB (pAt l i)))) σ := ZmU ho h

abbrev ZuA (f : SlF) (l : List Pc) : AVal := .clo (.func i_Xq38) [] [.fptr [pcA f l]]
theorem ZmV {f fg : SlF} {l : List Pc} {g : List Int} (hg : g.length ≤ 100000) (hi : ∀ i ∈ g, 0 ≤ i ∧ i < l.length) (ho : ZdE l) {lv : List Nat} {σ : Sto} {R : Zs} : Cw T true i_Xq33 [Z3 fg g, ZuA f l] lv σ R ↔ R (.int .i64 (ZaO mB l g)) σ := by
 refine Zt T_Xq33 (by simp only [go_sem]) (by simp) ?_; rw [Za Xq33.main.eq_1]
 have h := ZmT (f := f) (fg := fg) (v := mB) hg hi (fun p hp => by have := ho p hp; unfold mB; omega) (fun h => ZmY ho h) 0 (by omega) 0 (by omega) (by omega) (by rw [List.drop_zero, Int.zero_add])
 simp (maxSteps := 2000000) only [go_sem]
 exact h
def Zh1 (l : List Pc) (g : List Int) : Bool := ZJ l && ZaN l.length g
def Za7 (l : List Pc) (g : List Int) : Int := if Zh1 l g = true then 4096 + ZaO mB l g else 0
def Zew (l : List Pc) (g : List Int) : Int := if Zh1 l g = true then 0 else 1
theorem Zdj {v : Pc → Int} {l : List Pc} {M : Int} (hM : 0 ≤ M) (hv : ∀ p ∈ l, 0 ≤ v p ∧ v p ≤ M) : ∀ {g : List Int}, (∀ i ∈ g, 0 ≤ i ∧ i < l.length) → 0 ≤ ZaO v l g ∧ ZaO v l g ≤ g.length * M
 | [], _ => by simp [ZaO]
 | i :: g, h => by
  have h1 := hv _ (Zgc (h i List.mem_cons_self))
  have h2 := Zdj hM hv (g := g) fun j hj => h j (List.mem_cons_of_mem _ hj)
  rw [Zcf, List.length_cons, Int.natCast_succ, Int.add_mul]
  omega
theorem ZfC {n : Nat} {g : List Int} (h : ZaN n g = true) : g.length ≤ n ∧ ∀ i ∈ g, 0 ≤ i ∧ i < n := by
 unfold ZaN at h
 rw [Bool.and_eq_true, decide_eq_true_eq] at h
 refine ⟨?_, fun i hi => by have := ZbC h.1 i hi; omega⟩
 rcases Zfj h.1 (by omega) with h1 | h1
 ·omega
 ·exact (h.2 h1).elim
theorem ZmW {f fg : SlF} {l : List Pc} {g : List Int} (hl : ZG l) (hg : ZG g) {lv : List Nat} {σ : Sto} {R : Zs} : Cw T true i_Xq50 [pcA f l, Z3 fg g] lv σ R ↔ R (.tup [.int .i64 (Za7 l g), .int .i64 (Zew l g)]) σ := by
 refine Zt T_Xq50 (by simp only [go_sem]) (by simp) ?_; rw [Za Xq50.main.eq_1]
 have h1 := @ZbR f l hl
 have h2 := @Zid f fg l g hl hg
 unfold Za7 Zew Zh1
 cases hv : ZJ l <;> rw [hv] at h1
 ·simp (maxSteps := 2000000) only [go_sem, h1, Bool.not_false, Bool.false_and]
 ·cases hi : ZaN l.length g <;> rw [hi] at h2
  ·simp (maxSteps := 2000000) only [go_sem, h1, h2, Bool.not_true, Bool.not_false, Bool.and_false]
  ·obtain ⟨hn, ho⟩ := Zbr.1 hv
   obtain ⟨m1, m2⟩ := ZfC hi
   obtain ⟨b1, b2⟩ := Zdj (v := mB) (M := 3000000000) (by omega) (fun p hp => by have := ho p hp; unfold mB; omega) m2
   have w1 : IntKind.i64.wrap (4096 + ZaO mB l g) = 4096 + ZaO mB l g := Zi (by omega) (by omega)
   simp (maxSteps := 2000000) only [go_sem, h1, h2, Bool.not_true, Bool.and_self]
   refine (Zbi T_Xq33 (as := [Z3 fg g, ZuA f l]) (fun {lv σ R} => ZmV (by omega) m2 ho) ?_ (by simp (maxSteps := 2000000) only [go_sem]) rfl).2 ?_
   ·simp (maxSteps := 2000000) only [go_sem, ZdV (σ := [AObj.cells false [pcA f l]]) (v := pcA f l) Zde rfl]
    done
   simp (maxSteps := 2000000) only [go_sem, w1]
@[go_sem] theorem Zh3 {f fg : SlF} {l : List Pc} {g : List Int} (hl : ZG l) (hg : ZG g) {Q : Zg} {k : List Item} {os : List AOper} {d : Option Nat} {e : Env} {σ : Sto} : Zp T Q k os d e σ true i_Xq50 [pcA f l, Z3 fg g] ↔ Run T Q (.ops os :: k) (put e d (.tup [.int .i64 (Za7 l g), .int .i64 (Zew l g)])) σ := ZmW hl hg

theorem ZmX {f fg : SlF} {l : List Pc} {g : List Int} (hl : l.length ≤ 100000) (hg : ZG g) {lv : List Nat} {σ : Sto} {R : Zs} : Cw T true i_Xq62 [pcA f l, Z3 fg g] lv σ R ↔ R (.agg [.nils, .nils, .int .i64 (Za7 l g), .int .i64 (Zew l g)]) σ := by
 refine Zt T_Xq62 (by simp only [go_sem]) (by simp) ?_; rw [Za Xq62.main.eq_1]
 simp (maxSteps := 2000000) only [go_sem, ZcX hl, Zh3 (show ZG l by unfold ZG; omega) hg]
 done
@[go_sem] theorem ZmZ {f fg : SlF} {l : List Pc} {g : List Int} (hl : l.length ≤ 100000) (hg : ZG g) {Q : Zg} {k : List Item} {os : List AOper} {d : Option Nat} {e : Env} {σ : Sto} : Zp T Q k os d e σ true i_Xq62 [pcA f l, Z3 fg g] ↔ Run T Q (.ops os :: k) (put e d (.agg [.nils, .nils, .int .i64 (Za7 l g), .int .i64 (Zew l g)])) σ := ZmX hl hg

def Zbs (l : List Pc) (r : Int) (g : List Int) : Bool := decide (r * 4096 * ((g.length : Int) - 1) ≤ Za7 l g)
theorem Zh2 {f fg : SlF} {l : List Pc} {g : List Int} {r : Int} (hl : ZG l) (hg : g.length ≤ 100000) (hr : 0 ≤ r ∧ r ≤ 1000000000) {lv : List Nat} {σ : Sto} {R : Zs} : Cw T true i_Xq36 [Z3 fg g, .fptr [pcA f l], .fptr [.int .i64 r]] lv σ R ↔ R (.bool (Zbs l r g)) σ := by
 refine Zt T_Xq36 (by simp only [go_sem]) (by simp) ?_; rw [Za Xq36.main.eq_1]
 have w1 : IntKind.i64.wrap (r * 4096) = r * 4096 := Zi (by omega) (by omega)
 have w2 : IntKind.i64.wrap ((g.length : Int) - 1) = (g.length : Int) - 1 := Zi (by omega) (by omega)
 have hb : r * 4096 * ((g.length : Int) - 1) ≤ 4096000000000 * 100000 ∧ -(4096000000000) ≤ r * 4096 * ((g.length : Int) - 1) := by
  have e : r * 4096 * ((g.length : Int) - 1) = r * 4096 * (g.length : Int) - r * 4096 := by rw [Int.mul_sub, Int.mul_one]
  have h1 : r * 4096 * (g.length : Int) ≤ 4096000000000 * 100000 := Int.mul_le_mul (by omega) (by omega) (by omega) (by omega)
  have h2 : 0 ≤ r * 4096 * (g.length : Int) := Int.mul_nonneg (by omega) (by omega)
  omega
 have w3 : IntKind.i64.wrap (r * 4096 * ((g.length : Int) - 1)) = r * 4096 * ((g.length : Int) - 1) := Zi (by omega) (by omega)
 simp (maxSteps := 2000000) only [go_sem, Zh3 hl (show ZG g by unfold ZG; omega), w1, w2, w3]
 rfl
@[go_sem] theorem Zh4 {f fg : SlF} {l : List Pc} {g : List Int} {r : Int} (hl : ZG l) (hg : g.length ≤ 100000) (hr : 0 ≤ r ∧ r ≤ 1000000000) {Q : Zg} {k : List Item} {os : List AOper} {d : Option Nat} {e : Env} {σ : Sto} : Zp T Q k os d e σ true i_Xq36 [Z3 fg g, .fptr [pcA f l], .fptr [.int .i64 r]] ↔ Run T Q (.ops os :: k) (put e d (.bool (Zbs l r g))) σ := Zh2 hl hg hr

end Go.Abs
