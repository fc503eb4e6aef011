/- Parts of the proof: P42C, P42D, P42E, P42F, P42G. -/
import Derived.Test.YtpclhokdlhcjkaaJP42A
import Derived.Test.YtpclhokdlhcjkaaAbsHeap
set_option linter.all false
/- Walks of the library's sorting: a heap. -/
set_option linter.unusedSimpArgs false
set_option linter.unusedVariables false
set_option maxRecDepth 100000
set_option maxHeartbeats 4000000
namespace Go.Abs
open Go
attribute [local go_sem_proc] Nat.reduceLT Nat.reduceEqDiff Nat.reduceLeDiff Nat.reduceAdd Nat.reduceSub Nat.reduceMul Int.reduceLT Int.reduceLE Int.reduceEq Int.reduceNeg
attribute [local go_sem_proc ↓] reduceIte

section
variable {σ : Sto} {o : Nat} {nl : Bool} {g : FuncId} {fs cs : List AVal} {r : Int → Int → Bool} {p : Int → Prop}

theorem imul2 {a : Nat} (h : a < 4611686018427387904) : IntKind.i64.wrap (2 * (a : Int)) = ((2 * a : Nat) : Int) := by rw [wrap_i64 (by omega) (by omega)]; omega

theorem sift_c1 (S : Srt σ o nl g fs cs r p) {N hi f root c lo : Nat} {D : List Int} {R : Post} (hN : N < 1000000) (hfN : f + hi ≤ N) (hD : D.length = N) (hp : ∀ x ∈ D, p x) (hlo : lo ≤ root) (hH : HeapBut r D f lo hi root) (hc : c = 2 * root + 1 ∨ c = 2 * root + 2) (hch : c < hi)
  (hbig : ∀ d, (d = 2 * root + 1 ∨ d = 2 * root + 2) → d < hi → r (gd D (f + c)) (gd D (f + d)) = false)
  (done : Heap r D f lo hi → R (.tup []) (stI σ o nl D))
  (next : HeapBut r (sw D (f + root) (f + c)) f lo hi c → Run T (Ret [] R) (.inLoop X9.b0 :: X9.k0) (mkE 82 [(0, .ref o N 0 N 1), (2, .int .i64 hi), (3, .int .i64 f), (4, .clo (.func g) fs cs), (10, .int .i64 c)]) (stI σ o nl (sw D (f + root) (f + c)))) :
  Run T (Ret [] R) (.code X9.c1 :: .inBlock 1 :: .inLoop X9.b0 :: X9.k0) (mkE 82 [(0, .ref o N 0 N 1), (2, .int .i64 hi), (3, .int .i64 f), (4, .clo (.func g) fs cs), (10, .int .i64 root), (11, .int .i64 c)]) (stI σ o nl D) := by
 have h1 : f + root < D.length := by omega
 have h2 : f + c < D.length := by omega
 have h1N : f + root < N := by omega
 have h2N : f + c < N := by omega
 have hk1 : f + root + 1 ≤ N := by omega
 have hk2 : f + c + 1 ≤ N := by omega
 have w1 := iadd (a := f) (b := root) (by omega)
 have w2 := iadd (a := f) (b := c) (by omega)
 have hget := stI_get (nl := nl) (D := D) S.lt
 have hget2 := stI_get (nl := nl) (D := D.set (f + root) D[f + c]) S.lt
 obtain ⟨x, hcr, hcall⟩ := S.at D[f + root] D[f + c] D (hp _ (List.getElem_mem h1)) (hp _ (List.getElem_mem h2))
 rw [run_unfold X9.c1.eq_1]
 cases hr : r D[f + root] D[f + c]
 ·have hcn : ¬ x < 0 := by simpa [hr] using hcr
  simp (maxSteps := 2000000) only [go_sem, hget, hD, h1, h2, h1N, h2N, w1, w2, hcall, hcn]
  refine done (heap_end hH fun d hd hdh => ?_)
  by_cases e : d = c
  ·rw [e, gd_get h1, gd_get h2]; exact hr
  ·exact S.trans _ _ _ (hp _ (gd_mem h1)) (hp _ (gd_mem h2)) (hp _ (gd_mem (by omega))) (by rw [gd_get h1, gd_get h2]; exact hr) (hbig d hd hdh)
 ·have hcn : x < 0 := by simpa [hr] using hcr
  have := next (heap_step S.toOrd3 (by omega) hp hH hlo hc hch hbig (by rw [gd_get h1, gd_get h2]; exact hr))
  simp (maxSteps := 2000000) only [go_sem, hget, hget2, hD, h1, h2, h1N, h2N, hk1, hk2, w1, w2, hcall, hcn, stI_set, List.length_set, List.length_map]
  rw [sw_eq h1 h2]
  exact this

theorem sift_b0 (S : Srt σ o nl g fs cs r p) {N hi f lo : Nat} {R : Post} (hN : N < 1000000) (hfN : f + hi ≤ N) : ∀ (m root : Nat) (D : List Int), hi - root ≤ m → D.length = N → (∀ x ∈ D, p x) → lo ≤ root → root < 1000000 → HeapBut r D f lo hi root →
  (∀ D', Seg f (f + hi) D D' → Heap r D' f lo hi → R (.tup []) (stI σ o nl D')) →
  Run T (Ret [] R) (.inLoop X9.b0 :: X9.k0) (mkE 82 [(0, .ref o N 0 N 1), (2, .int .i64 hi), (3, .int .i64 f), (4, .clo (.func g) fs cs), (10, .int .i64 root)]) (stI σ o nl D) := by
 intro m
 induction m with
 | zero =>
  intro root D hm hD hp hlo hrt hH next
  have w := imul2 (a := root) (by omega)
  have w' := wrap_succ (n := 2 * root) (by omega)
  have hge : (hi : Int) ≤ ((2 * root + 1 : Nat) : Int) := by omega
  have := next D (Seg.refl _ _ _) (heap_end hH fun c hc hch => by omega)
  rw [run_round, run_unfold X9.b0.eq_1]
  simp (maxSteps := 2000000) only [go_sem, w, w', hge, run_unfold X9.c0.eq_1, run_unfold X9.c1.eq_1, X9.k0]
  exact this
 | succ m ih =>
  intro root D hm hD hp hlo hrt hH next
  have w := imul2 (a := root) (by omega)
  have w' := wrap_succ (n := 2 * root) (by omega)
  have w'' := wrap_succ (n := 2 * root + 1) (by omega)
  by_cases hc : 2 * root + 1 < hi
  ·have hge : ¬ (hi : Int) ≤ ((2 * root + 1 : Nat) : Int) := by omega
   have go : ∀ c, (c = 2 * root + 1 ∨ c = 2 * root + 2) → c < hi → HeapBut r (sw D (f + root) (f + c)) f lo hi c → Run T (Ret [] R) (.inLoop X9.b0 :: X9.k0) (mkE 82 [(0, .ref o N 0 N 1), (2, .int .i64 hi), (3, .int .i64 f), (4, .clo (.func g) fs cs), (10, .int .i64 c)]) (stI σ o nl (sw D (f + root) (f + c))) := fun c hc hch hb =>
    ih c _ (by omega) (by rw [sw_len]; exact hD) (fun x hx => hp x ((sw_perm (by omega) (by omega)).mem_iff.1 hx)) (by omega) (by omega) hb fun D' h1 h2 => next D' ((Seg.swap (by omega) (by omega) (by omega) (by omega) (by omega)).trans h1) h2
   have dn : Heap r D f lo hi → R (.tup []) (stI σ o nl D) := next D (Seg.refl _ _ _)
   have hx1 : f + (2 * root + 1) < D.length := by omega
   have irr : ∀ k, k < D.length → r (gd D k) (gd D k) = false := fun k hk => by
    cases hr : r (gd D k) (gd D k) with
    | false => rfl
    | true => have := S.asym _ _ (hp _ (gd_mem hk)) (hp _ (gd_mem hk)) hr; rw [hr] at this; cases this
   by_cases hc2 : 2 * root + 2 < hi
   ·have hlt : ((2 * root + 1 + 1 : Nat) : Int) < (hi : Int) := by omega
    have hx2 : f + (2 * root + 1) + 1 < D.length := by omega
    have hx1N : f + (2 * root + 1) < N := by omega
    have hx2N : f + (2 * root + 1) + 1 < N := by omega
    have w1 := iadd (a := f) (b := 2 * root + 1) (by omega)
    have w2 := wrap_succ (n := f + (2 * root + 1)) (by omega)
    have hget := stI_get (nl := nl) (D := D) S.lt
    obtain ⟨x, hcr, hcall⟩ := S.at D[f + (2 * root + 1)] D[f + (2 * root + 1) + 1] D (hp _ (List.getElem_mem hx1)) (hp _ (List.getElem_mem hx2))
    cases hr : r D[f + (2 * root + 1)] D[f + (2 * root + 1) + 1]
    ·have hcn : ¬ x < 0 := by simpa [hr] using hcr
     have := sift_c1 S hN hfN hD hp hlo hH (.inl rfl) hc (fun d hd hdh => by
      rcases hd with rfl | rfl
      ·exact irr _ hx1
      ·rw [show f + (2 * root + 2) = f + (2 * root + 1) + 1 by omega, gd_get hx1, gd_get hx2]; exact hr) dn (go _ (.inl rfl) hc)
     rw [run_round, run_unfold X9.b0.eq_1]
     simp (maxSteps := 2000000) only [go_sem, w, w', w'', hge, hlt, hget, hD, hx1, hx2, hx1N, hx2N, w1, w2, hcall, hcn]
     exact this
    ·have hcn : x < 0 := by simpa [hr] using hcr
     have := sift_c1 S hN hfN hD hp hlo hH (c := 2 * root + 1 + 1) (.inr (by omega)) (by omega) (fun d hd hdh => by
      rw [show f + (2 * root + 1 + 1) = f + (2 * root + 1) + 1 by omega]
      rcases hd with rfl | rfl
      ·rw [gd_get hx1, gd_get hx2]; exact S.asym _ _ (hp _ (List.getElem_mem hx1)) (hp _ (List.getElem_mem hx2)) hr
      ·rw [show f + (2 * root + 2) = f + (2 * root + 1) + 1 by omega]; exact irr _ hx2) dn (go _ (.inr (by omega)) (by omega))
     rw [run_round, run_unfold X9.b0.eq_1]
     simp (maxSteps := 2000000) only [go_sem, w, w', w'', hge, hlt, hget, hD, hx1, hx2, hx1N, hx2N, w1, w2, hcall, hcn]
     exact this
   ·have hlt : ¬ ((2 * root + 1 + 1 : Nat) : Int) < (hi : Int) := by omega
    have := sift_c1 S hN hfN hD hp hlo hH (.inl rfl) hc (fun d hd hdh => by
     rcases hd with rfl | rfl
     ·exact irr _ hx1
     ·omega) dn (go _ (.inl rfl) hc)
    rw [run_round, run_unfold X9.b0.eq_1]
    simp (maxSteps := 2000000) only [go_sem, w, w', w'', hge, hlt]
    exact this
  ·have hge : (hi : Int) ≤ ((2 * root + 1 : Nat) : Int) := by omega
   have := next D (Seg.refl _ _ _) (heap_end hH fun c hc hch => by omega)
   rw [run_round, run_unfold X9.b0.eq_1]
   simp (maxSteps := 2000000) only [go_sem, w, w', hge, run_unfold X9.c0.eq_1, run_unfold X9.c1.eq_1, X9.k0]
   exact this

theorem siftDown_int (S : Srt σ o nl g fs cs r p) {N hi f lo : Nat} {D : List Int} {R : Post} (hN : N < 1000000) (hfN : f + hi ≤ N) (hlo : lo < 1000000) (hD : D.length = N) (hp : ∀ x ∈ D, p x) (hH : HeapBut r D f lo hi lo)
  (next : ∀ D', Seg f (f + hi) D D' → Heap r D' f lo hi → R (.tup []) (stI σ o nl D')) : Cw T false i_X9 [.ref o N 0 N 1, .int .i64 lo, .int .i64 hi, .int .i64 f, .clo (.func g) fs cs] [] (stI σ o nl D) R := by
 rw [cw_enter T_X9 (by simp), run_unfold X9.main.eq_1]
 simp (maxSteps := 2000000) only [go_sem]
 exact sift_b0 S hN hfN _ lo D (Nat.le_refl _) hD hp (Nat.le_refl _) hlo hH next

theorem heap_b1 (S : Srt σ o nl g fs cs r p) {N hi f : Nat} {R : Post} (hN : N < 1000000) (hfN : f + hi ≤ N) : ∀ (n : Nat) (D : List Int), n ≤ hi → D.length = N → (∀ x ∈ D, p x) → Heap r D f 0 n → Half r D f n hi →
  (∀ D', Seg f (f + hi) D D' → SortedOn r D' f (f + hi) → R (.tup []) (stI σ o nl D')) →
  Run T (Ret [] R) (.inLoop X8.b1 :: X8.k1) (mkE 60 [(0, .ref o N 0 N 1), (3, .clo (.func g) fs cs), (8, .int .i64 f), (9, .int .i64 0), (12, .int .i64 ((n : Int) - 1))]) (stI σ o nl D) := by
 intro n
 induction n with
 | zero =>
  intro D hn hD hp hH hh next
  have hlt : ¬ (0 : Int) ≤ 0 - 1 := by decide
  have := next D (Seg.refl _ _ _) (by have := hh.srt; rwa [Nat.add_zero] at this)
  rw [run_round, run_unfold X8.b1.eq_1]
  simp (maxSteps := 2000000) only [go_sem, Int.natCast_zero, Int.ofNat_zero, hlt, run_unfold X8.c0.eq_1, run_unfold X8.c1.eq_1, X8.k0, X8.k1]
  exact this
 | succ n ih =>
  intro D hn hD hp hH hh next
  have e : ((n + 1 : Nat) : Int) - 1 = (n : Int) := by omega
  rw [e]
  have hlt : (0 : Int) ≤ (n : Int) := by omega
  have h1 : f < D.length := by omega
  have h2 : f + n < D.length := by omega
  have h1N : f < N := by omega
  have h2N : f + n < N := by omega
  have hk1 : f + 1 ≤ N := by omega
  have hk2 : f + n + 1 ≤ N := by omega
  have w1 := iadd (a := f) (b := n) (by omega)
  have w2 : IntKind.i64.wrap ((n : Int) - 1) = (n : Int) - 1 := wrap_i64 (by omega) (by omega)
  have hget := stI_get (nl := nl) (D := D) S.lt
  have hget2 := stI_get (nl := nl) (D := D.set f D[f + n]) S.lt
  obtain ⟨g1, g2⟩ := half_step S.toOrd3 (show n < hi by omega) (by omega) hp hH hh
  rw [run_round, run_unfold X8.b1.eq_1]
  simp (maxSteps := 2000000) only [go_sem, hlt, hget, hget2, hD, h1, h2, h1N, h2N, hk1, hk2, w1, stI_set, List.length_set, List.length_map]
  rw [sw_eq h1 h2]
  unfold CallK
  refine siftDown_int S hN (show f + n ≤ N by omega) (lo := 0) (by omega) (by rw [sw_len]; exact hD) (fun x hx => hp x ((sw_perm h1 h2).mem_iff.1 hx)) g2 fun D' k1 k2 => ?_
  have := ih D' (by omega) (by rw [k1.len, sw_len]; exact hD) (fun x hx => hp x ((sw_perm h1 h2).mem_iff.1 (k1.perm.mem_iff.1 hx))) k2 (half_seg g1 k1 (by omega))
   (fun D'' q1 q2 => next D'' ((Seg.swap (Nat.le_refl _) (by omega) (by omega) (by omega) (by omega)).trans ((k1.mono (Nat.le_refl _) (by omega)).trans q1)) q2)
  simp (maxSteps := 2000000) only [go_sem, w2]
  exact this

theorem heap_b0 (S : Srt σ o nl g fs cs r p) {N hi f : Nat} {Q : Post3} (hN : N < 1000000) (hfN : f + hi ≤ N) : ∀ (n : Nat) (D : List Int), n ≤ hi → D.length = N → (∀ x ∈ D, p x) → Heap r D f n hi →
  (∀ D', Seg f (f + hi) D D' → Heap r D' f 0 hi → Run T Q [.code X8.c1] (mkE 60 [(0, .ref o N 0 N 1), (3, .clo (.func g) fs cs), (8, .int .i64 f), (9, .int .i64 0), (10, .int .i64 hi)]) (stI σ o nl D')) →
  Run T Q (.inLoop X8.b0 :: X8.k0) (mkE 60 [(0, .ref o N 0 N 1), (3, .clo (.func g) fs cs), (8, .int .i64 f), (9, .int .i64 0), (10, .int .i64 hi), (11, .int .i64 ((n : Int) - 1))]) (stI σ o nl D) := by
 intro n
 induction n with
 | zero =>
  intro D hn hD hp hH next
  have hlt : ¬ (0 : Int) ≤ 0 - 1 := by decide
  have := next D (Seg.refl _ _ _) hH
  rw [run_round, run_unfold X8.b0.eq_1]
  simp (maxSteps := 2000000) only [go_sem, Int.natCast_zero, Int.ofNat_zero, hlt, X8.k0]
  exact this
 | succ n ih =>
  intro D hn hD hp hH next
  have e : ((n + 1 : Nat) : Int) - 1 = (n : Int) := by omega
  rw [e]
  have hlt : (0 : Int) ≤ (n : Int) := by omega
  have w2 : IntKind.i64.wrap ((n : Int) - 1) = (n : Int) - 1 := wrap_i64 (by omega) (by omega)
  rw [run_round, run_unfold X8.b0.eq_1]
  simp (maxSteps := 2000000) only [go_sem, hlt]
  unfold CallK
  refine siftDown_int S hN hfN (lo := n) (by omega) hD hp ⟨fun k c hk hne hkc hc => hH k c (by omega) hkc hc, fun q c hq hqc _ _ => by omega⟩ fun D' k1 k2 => ?_
  have := ih D' (by omega) (k1.len.trans hD) (fun x hx => hp x (k1.perm.mem_iff.1 hx)) k2 (fun D'' q1 q2 => next D'' (k1.trans q1) q2)
  simp (maxSteps := 2000000) only [go_sem, w2]
  exact this

theorem heapSort_int (S : Srt σ o nl g fs cs r p) {N a b : Nat} {D : List Int} {R : Post} (hN : N < 1000000) (hab : a < b) (hbN : b ≤ N) (hD : D.length = N) (hp : ∀ x ∈ D, p x)
  (next : ∀ D', Seg a b D D' → SortedOn r D' a b → R (.tup []) (stI σ o nl D')) : Cw T false i_X8 [.ref o N 0 N 1, .int .i64 a, .int .i64 b, .clo (.func g) fs cs] [] (stI σ o nl D) R := by
 rw [cw_enter T_X8 (by simp), run_unfold X8.main.eq_1]
 have w1 := isub (a := b) (b := a) (by omega) (by omega)
 have w2 : IntKind.i64.wrap (((b - a : Nat) : Int) - 1) = ((b - a - 1 : Nat) : Int) := by rw [wrap_i64 (by omega) (by omega)]; omega
 have w3 : IntKind.i64.wrap (Int.tdiv ((b - a - 1 : Nat) : Int) 2) = (((b - a - 1) / 2 + 1 : Nat) : Int) - 1 := by
  have : Int.tdiv ((b - a - 1 : Nat) : Int) 2 = (((b - a - 1) / 2 : Nat) : Int) := rfl
  rw [this, wrap_i64 (by omega) (by omega)]; omega
 simp (maxSteps := 2000000) only [go_sem, w1, w2, w3, show ¬ ((2 : Int) = 0) by omega]
 have hf : a + (b - a) = b := by omega
 refine heap_b0 S hN (show a + (b - a) ≤ N by omega) ((b - a - 1) / 2 + 1) D (by omega) hD hp (fun k c hk hkc hc => by omega) fun D' k1 k2 => ?_
 rw [run_unfold X8.c1.eq_1]
 have w4 : IntKind.i64.wrap (((b - a : Nat) : Int) - 1) = ((b - a : Nat) : Int) - 1 := wrap_i64 (by omega) (by omega)
 simp (maxSteps := 2000000) only [go_sem, w4]
 refine heap_b1 S hN (show a + (b - a) ≤ N by omega) (b - a) D' (Nat.le_refl _) (k1.len.trans hD) (fun x hx => hp x (k1.perm.mem_iff.1 hx)) k2 ⟨fun u v hu huv hv => by omega, fun u v hu hv hv' => by omega⟩ fun D'' q1 q2 => ?_
 rw [hf] at k1 q1 q2
 exact next D'' (k1.trans q1) q2
end
end Go.Abs
/- Walks of the library's sorting: a part turned round; a sort that gives up early. -/
set_option linter.unusedSimpArgs false
set_option linter.unusedVariables false
set_option maxRecDepth 100000
set_option maxHeartbeats 4000000
namespace Go.Abs
open Go
attribute [local go_sem_proc] Nat.reduceLT Nat.reduceEqDiff Nat.reduceLeDiff Nat.reduceAdd Nat.reduceSub Nat.reduceMul Int.reduceLT Int.reduceLE Int.reduceEq Int.reduceNeg
attribute [local go_sem_proc ↓] reduceIte

section
variable {σ : Sto} {o : Nat} {nl : Bool} {g : FuncId} {fs cs : List AVal} {r : Int → Int → Bool} {p : Int → Prop}

theorem reverse_b0 (ho : o < σ.length) {N a b : Nat} {R : Post} (hN : N < 1000000) (hbN : b ≤ N) : ∀ (m i j : Nat) (D : List Int), j - i ≤ m → D.length = N → a ≤ i → j < b →
  (∀ D', Seg a b D D' → R (.tup []) (stI σ o nl D')) →
  Run T (Ret [] R) (.inLoop X5.b0 :: X5.k0) (mkE 34 [(0, .ref o N 0 N 1), (8, .int .i64 i), (9, .int .i64 j)]) (stI σ o nl D) := by
 intro m
 induction m with
 | zero =>
  intro i j D hm hD hi hj next
  have hlt : ¬ (i : Int) < j := by omega
  have := next D (Seg.refl _ _ _)
  rw [run_round, run_unfold X5.b0.eq_1]
  simp (maxSteps := 2000000) only [go_sem, hlt, run_unfold X5.c0.eq_1, X5.k0]
  exact this
 | succ m ih =>
  intro i j D hm hD hi hj next
  by_cases hij : i < j
  ·have hlt : (i : Int) < j := by omega
   have h1 : i < D.length := by omega
   have h2 : j < D.length := by omega
   have h1N : i < N := by omega
   have h2N : j < N := by omega
   have hk1 : i + 1 ≤ N := by omega
   have hk2 : j + 1 ≤ N := by omega
   have hget := stI_get (nl := nl) (D := D) ho
   have hget2 := stI_get (nl := nl) (D := D.set i D[j]) ho
   have hwj : IntKind.i64.wrap ((j : Int) - 1) = ((j - 1 : Nat) : Int) := by rw [wrap_i64 (by omega) (by omega)]; omega
   have := ih (i + 1) (j - 1) (sw D i j) (by omega) (by rw [sw_len]; exact hD) (by omega) (by omega) fun D' h => next D' ((Seg.swap hi (by omega) (by omega) hj (by omega)).trans h)
   rw [run_round, run_unfold X5.b0.eq_1]
   simp (maxSteps := 2000000) only [go_sem, hlt, hget, hget2, hD, h1, h2, h1N, h2N, hk1, hk2, stI_set, List.length_set, List.length_map, hwj, wrap_succ (show i < 9223372036854775807 by omega)]
   rw [sw_eq h1 h2]
   exact this
  ·have hlt : ¬ (i : Int) < j := by omega
   have := next D (Seg.refl _ _ _)
   rw [run_round, run_unfold X5.b0.eq_1]
   simp (maxSteps := 2000000) only [go_sem, hlt, run_unfold X5.c0.eq_1, X5.k0]
   exact this
theorem reverse_int (ho : o < σ.length) {N a b : Nat} {D : List Int} {R : Post} {gv : AVal} (hN : N < 1000000) (hab : a < b) (hbN : b ≤ N) (hD : D.length = N)
  (next : ∀ D', Seg a b D D' → R (.tup []) (stI σ o nl D')) : Cw T false i_X5 [.ref o N 0 N 1, .int .i64 a, .int .i64 b, .clo (.func g) fs cs] [] (stI σ o nl D) R := by
 rw [cw_enter T_X5 (by simp), run_unfold X5.main.eq_1]
 have hwb : IntKind.i64.wrap ((b : Int) - 1) = ((b - 1 : Nat) : Int) := by rw [wrap_i64 (by omega) (by omega)]; omega
 simp (maxSteps := 2000000) only [go_sem, hwb]
 exact reverse_b0 ho hN hbN _ a (b - 1) D (Nat.le_refl _) hD (Nat.le_refl _) (by omega) next

theorem sorted_snoc (hO : Ord3 r p) {D : List Int} {a i : Nat} (hi : i < D.length) (hp : ∀ x ∈ D, p x) (h : SortedOn r D a i) (hr : a < i → r (gd D i) (gd D (i - 1)) = false) : SortedOn r D a (i + 1) := by
 intro u v hu huv hv
 by_cases e : v = i
 ·subst e
  have hr := hr (by omega)
  by_cases e2 : u = v - 1
  ·rw [e2]; exact hr
  ·exact hO.trans _ _ _ (hp _ (gd_mem hi)) (hp _ (gd_mem (by omega))) (hp _ (gd_mem (by omega))) hr (h u (v - 1) hu (by omega) (by omega))
 ·exact h u v hu huv (by omega)
theorem sorted_out {D D' : List Int} {a b i : Nat} (h : SortedOn r D a i) (hs : Seg i b D D') : SortedOn r D' a i := fun u v hu huv hv => by
 rw [hs.out u (by omega), hs.out v (by omega)]; exact h u v hu huv hv

theorem pis_b3 (S : Srt σ o nl g fs cs r p) {N a b i n : Nat} {Q : Post3} {K : List Item} (hN : N < 1000000) (hbN : b ≤ N) : ∀ (m j : Nat) (D : List Int), b - j ≤ m → D.length = N → (∀ x ∈ D, p x) → i < j → j ≤ b →
  (∀ D', Seg i b D D' → Run T Q K (mkE 141 [(0, .ref o N 0 N 1), (1, .int .i64 a), (2, .int .i64 b), (3, .clo (.func g) fs cs), (9, .int .i64 i), (10, .int .i64 n)]) (stI σ o nl D')) →
  Run T Q (.inLoop X0.b3 :: .inBlock 6 :: .code X0.c3 :: .code (.ghost (.kill [104])) :: K) (mkE 141 [(0, .ref o N 0 N 1), (1, .int .i64 a), (2, .int .i64 b), (3, .clo (.func g) fs cs), (9, .int .i64 i), (10, .int .i64 n), (12, .int .i64 j)]) (stI σ o nl D) := by
 intro m
 induction m with
 | zero =>
  intro j D hm hD hp hij hjb next
  have hlt : ¬ (j : Int) < b := by omega
  have := next D (Seg.refl _ _ _)
  rw [run_round, run_unfold X0.b3.eq_1]
  simp (maxSteps := 2000000) only [go_sem, hlt, run_unfold X0.c3.eq_1]
  exact this
 | succ m ih =>
  intro j D hm hD hp hij hjb next
  by_cases hjb' : j < b
  ·have hlt : (j : Int) < b := by omega
   obtain ⟨j, rfl⟩ : ∃ j', j = j' + 1 := ⟨j - 1, by omega⟩
   have h1 : j + 1 < D.length := by omega
   have h2 : j < D.length := by omega
   have h1N : j + 1 < N := by omega
   have h2N : j < N := by omega
   have hk1 : j + 1 + 1 ≤ N := by omega
   have hk2 : j + 1 ≤ N := by omega
   have hw := ipred (a := j) (by omega)
   have hget := stI_get (nl := nl) (D := D) S.lt
   have hget2 := stI_get (nl := nl) (D := D.set (j + 1) D[j]) S.lt
   obtain ⟨c, hcr, hcall⟩ := S.at D[j + 1] D[j] D (hp _ (List.getElem_mem h1)) (hp _ (List.getElem_mem h2))
   cases hr : r D[j + 1] D[j]
   ·have hcn : ¬ c < 0 := by simpa [hr] using hcr
    have := next D (Seg.refl _ _ _)
    rw [run_round, run_unfold X0.b3.eq_1]
    simp (maxSteps := 2000000) only [go_sem, hlt, hget, hD, h1, h2, h1N, h2N, hw, hcall, hcn, run_unfold X0.c3.eq_1]
    exact this
   ·have hcn : c < 0 := by simpa [hr] using hcr
    have := ih (j + 1 + 1) (sw D (j + 1) j) (by omega) (by rw [sw_len]; exact hD) (fun x hx => hp x ((sw_perm h1 h2).mem_iff.1 hx)) (by omega) (by omega) fun D' h => next D' ((Seg.swap (by omega) (by omega) (by omega) (by omega) (by omega)).trans h)
    rw [run_round, run_unfold X0.b3.eq_1]
    simp (maxSteps := 2000000) only [go_sem, hlt, hget, hget2, hD, h1, h2, h1N, h2N, hk1, hk2, hw, hcall, hcn, stI_set, List.length_set, List.length_map, wrap_succ (show j + 1 < 9223372036854775807 by omega)]
    rw [sw_eq h1 h2]
    exact this
  ·have hlt : ¬ (j : Int) < b := by omega
   have := next D (Seg.refl _ _ _)
   rw [run_round, run_unfold X0.b3.eq_1]
   simp (maxSteps := 2000000) only [go_sem, hlt, run_unfold X0.c3.eq_1]
   exact this

theorem pis_b2 (S : Srt σ o nl g fs cs r p) {N a b i n : Nat} {Q : Post3} {K : List Item} (hN : N < 1000000) (hib : i < b) (hbN : b ≤ N) : ∀ (j : Nat) (D : List Int), D.length = N → (∀ x ∈ D, p x) → a ≤ j → j + 1 ≤ i → Ins r D a (i - 1) j →
  (0 < a → ∀ k, a ≤ k → k < b → r (gd D k) (gd D (a - 1)) = false) →
  (∀ D', Seg a i D D' → SortedOn r D' a i → Run T Q K (mkE 141 [(0, .ref o N 0 N 1), (1, .int .i64 a), (2, .int .i64 b), (3, .clo (.func g) fs cs), (9, .int .i64 i), (10, .int .i64 n)]) (stI σ o nl D')) →
  Run T Q (.inLoop X0.b2 :: .inBlock 4 :: .code (.ghost (.kill [11, 69, 84])) :: .code (.ghost (.kill [65])) :: K) (mkE 141 [(0, .ref o N 0 N 1), (1, .int .i64 a), (2, .int .i64 b), (3, .clo (.func g) fs cs), (9, .int .i64 i), (10, .int .i64 n), (11, .int .i64 j)]) (stI σ o nl D) := by
 intro j
 induction j with
 | zero =>
  intro D hD hp ha hi hI hl next
  have : a = 0 := by omega
  subst this
  have hs := ins_end S.toOrd3 (by omega) (by omega) hI hp (.inl (Nat.le_refl _))
  rw [Nat.sub_add_cancel hi] at hs
  have := next D (Seg.refl _ _ _) hs
  have hlt : ¬ (1 : Int) ≤ 0 := by decide
  rw [run_round, run_unfold X0.b2.eq_1]
  simp (maxSteps := 2000000) only [go_sem, Int.natCast_zero, Int.ofNat_zero, hlt]
  exact this
 | succ j ih =>
  intro D hD hp ha hi hI hl next
  have hlt : (1 : Int) ≤ ((j + 1 : Nat) : Int) := by omega
  have h1 : j + 1 < D.length := by omega
  have h2 : j < D.length := by omega
  have h1N : j + 1 < N := by omega
  have h2N : j < N := by omega
  have hk1 : j + 1 + 1 ≤ N := by omega
  have hk2 : j + 1 ≤ N := by omega
  have hw := ipred (a := j) (by omega)
  have hget := stI_get (nl := nl) (D := D) S.lt
  have hget2 := stI_get (nl := nl) (D := D.set (j + 1) D[j]) S.lt
  obtain ⟨c, hcr, hcall⟩ := S.at D[j + 1] D[j] D (hp _ (List.getElem_mem h1)) (hp _ (List.getElem_mem h2))
  cases hr : r D[j + 1] D[j]
  ·have hcn : ¬ c < 0 := by simpa [hr] using hcr
   have hs := ins_end S.toOrd3 (by omega) (by omega) hI hp (.inr (by rw [Nat.add_sub_cancel, gd_get h1, gd_get h2]; exact hr))
   rw [Nat.sub_add_cancel (by omega)] at hs
   have := next D (Seg.refl _ _ _) hs
   rw [run_round, run_unfold X0.b2.eq_1]
   simp (maxSteps := 2000000) only [go_sem, hlt, hget, hD, h1, h2, h1N, h2N, hw, hcall, hcn]
   exact this
  ·have hcn : c < 0 := by simpa [hr] using hcr
   have haj : a ≤ j := by
    by_cases e : a = j + 1
    ·exfalso
     have := hl (by omega) a (Nat.le_refl _) (by omega)
     rw [e, Nat.add_sub_cancel, gd_get h1, gd_get h2, hr] at this
     cases this
    ·omega
   have := ih (sw D (j + 1) j) (by rw [sw_len]; exact hD) (fun x hx => hp x ((sw_perm h1 h2).mem_iff.1 hx)) haj (by omega) (ins_step S.toOrd3 (by omega) haj (by omega) hI hp (by rw [gd_get h1, gd_get h2]; exact hr))
    (fun h0 => by
     have hsg : Seg a b D (sw D (j + 1) j) := Seg.swap (by omega) (by omega) (by omega) (by omega) (by omega)
     rw [hsg.out (a - 1) (by omega)]
     exact hsg.seg (fun x => r x (gd D (a - 1)) = false) (hl h0))
    fun D' h h' => next D' ((Seg.swap (by omega) (by omega) (by omega) (by omega) (by omega)).trans h) h'
   rw [run_round, run_unfold X0.b2.eq_1]
   simp (maxSteps := 2000000) only [go_sem, hlt, hget, hget2, hD, h1, h2, h1N, h2N, hk1, hk2, hw, hcall, hcn, stI_set, List.length_set, List.length_map]
   rw [sw_eq h1 h2]
   exact this

theorem pis_b1 (S : Srt σ o nl g fs cs r p) {N a b n i0 : Nat} {Q : Post3} {K : List Item} {D : List Int} (hN : N < 1000000) (hbN : b ≤ N) (hD : D.length = N) (hp : ∀ x ∈ D, p x)
  (next : ∀ i, i0 ≤ i → i ≤ b → SortedOn r D a i → (i < b → r (gd D i) (gd D (i - 1)) = true) → Run T Q K (mkE 141 [(0, .ref o N 0 N 1), (1, .int .i64 a), (2, .int .i64 b), (3, .clo (.func g) fs cs), (9, .int .i64 i), (10, .int .i64 n)]) (stI σ o nl D)) : ∀ (m i : Nat), b - i ≤ m → i0 ≤ i → a < i → i ≤ b → SortedOn r D a i →
  Run T Q (.inLoop X0.b1 :: .inBlock 2 :: .code (.ghost (.kill [36])) :: K) (mkE 141 [(0, .ref o N 0 N 1), (1, .int .i64 a), (2, .int .i64 b), (3, .clo (.func g) fs cs), (9, .int .i64 i), (10, .int .i64 n)]) (stI σ o nl D) := by
 intro m
 induction m with
 | zero =>
  intro i hm h0 ha hib hs
  have hlt : ¬ (i : Int) < b := by omega
  have := next i h0 hib hs (fun h => by omega)
  rw [run_round, run_unfold X0.b1.eq_1]
  simp (maxSteps := 2000000) only [go_sem, hlt]
  exact this
 | succ m ih =>
  intro i hm h0 ha hib hs
  by_cases hlt' : i < b
  ·have hlt : (i : Int) < b := by omega
   obtain ⟨i, rfl⟩ : ∃ i', i = i' + 1 := ⟨i - 1, by omega⟩
   have h1 : i + 1 < D.length := by omega
   have h2 : i < D.length := by omega
   have h1N : i + 1 < N := by omega
   have h2N : i < N := by omega
   have hw := ipred (a := i) (by omega)
   have hget := stI_get (nl := nl) (D := D) S.lt
   obtain ⟨c, hcr, hcall⟩ := S.at D[i + 1] D[i] D (hp _ (List.getElem_mem h1)) (hp _ (List.getElem_mem h2))
   cases hr : r D[i + 1] D[i]
   ·have hcn : ¬ c < 0 := by simpa [hr] using hcr
    have := ih (i + 1 + 1) (by omega) (by omega) (by omega) (by omega) (sorted_snoc S.toOrd3 h1 hp hs fun _ => by rw [Nat.add_sub_cancel, gd_get h1, gd_get h2]; exact hr)
    rw [run_round, run_unfold X0.b1.eq_1]
    simp (maxSteps := 2000000) only [go_sem, hlt, hget, hD, h1, h2, h1N, h2N, hw, hcall, hcn, wrap_succ (show i + 1 < 9223372036854775807 by omega)]
    exact this
   ·have hcn : c < 0 := by simpa [hr] using hcr
    have := next (i + 1) h0 hib hs (fun h => by rw [Nat.add_sub_cancel, gd_get h1, gd_get h2]; exact hr)
    rw [run_round, run_unfold X0.b1.eq_1]
    simp (maxSteps := 2000000) only [go_sem, hlt, hget, hD, h1, h2, h1N, h2N, hw, hcall, hcn]
    exact this
  ·have hlt : ¬ (i : Int) < b := by omega
   have := next i h0 hib hs (fun h => by omega)
   rw [run_round, run_unfold X0.b1.eq_1]
   simp (maxSteps := 2000000) only [go_sem, hlt]
   exact this

theorem pis_b0 (S : Srt σ o nl g fs cs r p) {N a b : Nat} {R : Post} (hN : N < 1000000) (hab : a < b) (hbN : b ≤ N) : ∀ (m n i : Nat) (D : List Int), 5 - n = m → n ≤ 5 → D.length = N → (∀ x ∈ D, p x) → a < i → i ≤ b → SortedOn r D a i → (0 < a → ∀ k, a ≤ k → k < b → r (gd D k) (gd D (a - 1)) = false) →
  (∀ (D' : List Int) (x : Bool), Seg a b D D' → (x = true → SortedOn r D' a b) → R (.bool x) (stI σ o nl D')) →
  Run T (Ret [.tmp 8] R) (.inLoop X0.b0 :: X0.k0) (mkE 141 [(0, .ref o N 0 N 1), (1, .int .i64 a), (2, .int .i64 b), (3, .clo (.func g) fs cs), (9, .int .i64 i), (10, .int .i64 n)]) (stI σ o nl D) := by
 intro m
 induction m with
 | zero =>
  intro n i D hm hn hD hp ha hib hs hl next
  have hlt : ¬ (n : Int) < 5 := by omega
  have := next D false (Seg.refl _ _ _) (fun h => by cases h)
  rw [run_round, run_unfold X0.b0.eq_1]
  simp (maxSteps := 2000000) only [go_sem, hlt, run_unfold X0.c0.eq_1, run_unfold X0.c1.eq_1, run_unfold X0.c2.eq_1, run_unfold X0.c3.eq_1, run_unfold X0.c4.eq_1, run_unfold X0.c5.eq_1, X0.k0, X0.k1, X0.k2, X0.k3]
  exact this
 | succ m ih =>
  intro n i D hm hn hD hp ha hib hs hl next
  have hlt : (n : Int) < 5 := by omega
  rw [run_round, run_unfold X0.b0.eq_1]
  simp (maxSteps := 2000000) only [go_sem, hlt]
  refine pis_b1 S (i0 := i) hN hbN hD hp (fun i2 hi2 hib2 hs2 hr2 => ?_) _ i (Nat.le_refl _) (Nat.le_refl _) ha hib hs
  rw [run_unfold X0.c5.eq_1]
  by_cases e1 : i2 = b
  ·have e1' : (i2 : Int) = b := by omega
   subst e1
   have := next D true (Seg.refl _ _ _) (fun _ => hs2)
   simp (maxSteps := 2000000) only [go_sem, eq_self_iff_true]
   exact this
  ·have e1' : ¬ (i2 : Int) = b := by omega
   have w1 := isub (a := b) (b := a) (by omega) (by omega)
   by_cases e2 : b - a < 50
   ·have e2' : ((b - a : Nat) : Int) < 50 := by omega
    have := next D false (Seg.refl _ _ _) (fun h => by cases h)
    simp (maxSteps := 2000000) only [go_sem, e1', w1, e2']
    exact this
   ·have e2' : ¬ ((b - a : Nat) : Int) < 50 := by omega
    obtain ⟨i2, rfl⟩ : ∃ i', i2 = i' + 1 := ⟨i2 - 1, by omega⟩
    have h1 : i2 + 1 < D.length := by omega
    have h2 : i2 < D.length := by omega
    have h1N : i2 + 1 < N := by omega
    have h2N : i2 < N := by omega
    have hk1 : i2 + 1 + 1 ≤ N := by omega
    have hk2 : i2 + 1 ≤ N := by omega
    have hw := ipred (a := i2) (by omega)
    have hget := stI_get (nl := nl) (D := D) S.lt
    have hget2 := stI_get (nl := nl) (D := D.set (i2 + 1) D[i2]) S.lt
    have hr2 := hr2 (by omega)
    rw [Nat.add_sub_cancel] at hr2
    have hs1 : Seg a b D (sw D (i2 + 1) i2) := Seg.swap (by omega) (by omega) (by omega) (by omega) (by omega)
    have hD1 : (sw D (i2 + 1) i2).length = N := by rw [sw_len]; exact hD
    have hp1 : ∀ x ∈ sw D (i2 + 1) i2, p x := fun x hx => hp x ((sw_perm h1 h2).mem_iff.1 hx)
    have hl1 : 0 < a → ∀ k, a ≤ k → k < b → r (gd (sw D (i2 + 1) i2) k) (gd (sw D (i2 + 1) i2) (a - 1)) = false := fun h0 => by
     rw [hs1.out (a - 1) (by omega)]
     exact hs1.seg (fun x => r x (gd D (a - 1)) = false) (hl h0)
    have hI : Ins r (sw D (i2 + 1) i2) a i2 i2 := fun u v hu huv hv hne => by
     rw [gd_sw (by omega) (by omega), gd_sw (by omega) (by omega), if_neg (by omega), if_neg (by omega), if_neg (by omega), if_neg (by omega)]
     exact hs2 u v hu huv (by omega)
    have wia := isub (a := i2 + 1) (b := a) (by omega) (by omega)
    simp (maxSteps := 2000000) only [go_sem, e1', w1, e2', hget, hget2, hD, h1, h2, h1N, h2N, hk1, hk2, hw, wia, stI_set, List.length_set, List.length_map]
    rw [sw_eq h1 h2]
    generalize sw D (i2 + 1) i2 = D1 at hs1 hD1 hp1 hl1 hI ⊢
    have fin : ∀ D2, Seg a b D1 D2 → SortedOn r D2 a (i2 + 1) → Run T (Ret [.tmp 8] R) (.code X0.c4 :: .inBlock 1 :: .code X0.c2 :: .inLoop X0.b0 :: X0.k0) (mkE 141 [(0, .ref o N 0 N 1), (1, .int .i64 a), (2, .int .i64 b), (3, .clo (.func g) fs cs), (9, .int .i64 ((i2 + 1 : Nat) : Int)), (10, .int .i64 n)]) (stI σ o nl D2) := by
     intro D2 q1 q2
     have back : ∀ D3, Seg (i2 + 1) b D2 D3 → Run T (Ret [.tmp 8] R) (.inBlock 1 :: .code X0.c2 :: .inLoop X0.b0 :: X0.k0) (mkE 141 [(0, .ref o N 0 N 1), (1, .int .i64 a), (2, .int .i64 b), (3, .clo (.func g) fs cs), (9, .int .i64 ((i2 + 1 : Nat) : Int)), (10, .int .i64 n)]) (stI σ o nl D3) := by
      intro D3 q3
      have hall : Seg a b D D3 := (hs1.trans q1).trans (q3.mono (by omega) (Nat.le_refl _))
      have := ih (n + 1) (i2 + 1) D3 (by omega) (by omega) (hall.len.trans hD) (fun x hx => hp x (hall.perm.mem_iff.1 hx)) (by omega) hib2 (sorted_out q2 q3)
       (fun h0 => by
        rw [hall.out (a - 1) (by omega)]
        exact hall.seg (fun x => r x (gd D (a - 1)) = false) (hl h0))
       (fun D' x k1 k2 => next D' x (hall.trans k1) k2)
      simp (maxSteps := 2000000) only [go_sem, run_unfold X0.c2.eq_1, wrap_succ (show n < 9223372036854775807 by omega)]
      exact this
     have wbi := isub (a := b) (b := i2 + 1) (by omega) (by omega)
     have hall : Seg a b D D2 := hs1.trans q1
     rw [run_unfold X0.c4.eq_1]
     by_cases e4 : 2 ≤ b - (i2 + 1)
     ·have e4' : (2 : Int) ≤ ((b - (i2 + 1) : Nat) : Int) := by omega
      simp (maxSteps := 2000000) only [go_sem, wbi, e4', wrap_succ (show i2 + 1 < 9223372036854775807 by omega)]
      exact pis_b3 S hN hbN _ (i2 + 1 + 1) D2 (Nat.le_refl _) (hall.len.trans hD) (fun x hx => hp x (hall.perm.mem_iff.1 hx)) (by omega) (by omega) back
     ·have e4' : ¬ (2 : Int) ≤ ((b - (i2 + 1) : Nat) : Int) := by omega
      have := back D2 (Seg.refl _ _ _)
      simp (maxSteps := 2000000) only [go_sem, wbi, e4']
      simp (maxSteps := 2000000) only [go_sem] at this
      exact this
    by_cases e3 : 2 ≤ i2 + 1 - a
    ·have e3' : (2 : Int) ≤ ((i2 + 1 - a : Nat) : Int) := by omega
     simp (maxSteps := 2000000) only [go_sem, e3', hw]
     refine pis_b2 S hN (i := i2 + 1) (by omega) hbN i2 D1 hD1 hp1 (by omega) (Nat.le_refl _) hI hl1 fun D2 q1 q2 => ?_
     exact fin D2 (q1.mono (Nat.le_refl _) (by omega)) q2
    ·have e3' : ¬ (2 : Int) ≤ ((i2 + 1 - a : Nat) : Int) := by omega
     simp (maxSteps := 2000000) only [go_sem, e3']
     exact fin D1 (Seg.refl _ _ _) (fun u v hu huv hv => by omega)

theorem partialInsertionSort_int (S : Srt σ o nl g fs cs r p) {N a b : Nat} {D : List Int} {R : Post} (hN : N < 1000000) (hab : a < b) (hbN : b ≤ N) (hD : D.length = N) (hp : ∀ x ∈ D, p x) (hl : 0 < a → ∀ k, a ≤ k → k < b → r (gd D k) (gd D (a - 1)) = false)
  (next : ∀ (D' : List Int) (x : Bool), Seg a b D D' → (x = true → SortedOn r D' a b) → R (.bool x) (stI σ o nl D')) : Cw T false i_X0 [.ref o N 0 N 1, .int .i64 a, .int .i64 b, .clo (.func g) fs cs] [] (stI σ o nl D) R := by
 rw [cw_enter T_X0 (by simp), run_unfold X0.main.eq_1]
 simp (maxSteps := 2000000) only [go_sem, wrap_succ (show a < 9223372036854775807 by omega)]
 exact pis_b0 S hN hab hbN 5 0 (a + 1) D rfl (by omega) hD hp (by omega) hab (fun u v hu huv hv => by omega) hl next
end
end Go.Abs
/- Walks of the library's sorting: the choice of a pivot; patterns broken. -/
set_option linter.unusedSimpArgs false
set_option linter.unusedVariables false
set_option maxRecDepth 100000
set_option maxHeartbeats 4000000
namespace Go.Abs
open Go
attribute [local go_sem_proc] Nat.reduceLT Nat.reduceEqDiff Nat.reduceLeDiff Nat.reduceAdd Nat.reduceSub Nat.reduceMul Int.reduceLT Int.reduceLE Int.reduceEq Int.reduceNeg
attribute [local go_sem_proc ↓] reduceIte

section
variable {σ : Sto} {o : Nat} {nl : Bool} {g : FuncId} {fs cs : List AVal} {r : Int → Int → Bool} {p : Int → Prop}

@[go_sem] theorem nilckV_ptr {o g f : Nat} {σ : Sto} : nilckV (.ptr o g f) σ = some (.ptr o g f, σ) := rfl
abbrev boxI (n : Int) : AObj := .cells false [.int .i64 n]
theorem stB_get {D : List Int} {b : AObj} (h : o < σ.length) : (stI (σ ++ [b]) o nl D)[σ.length]? = some b := by
 rw [List.getElem?_set_ne (by omega)]; simp
theorem stB_set {D : List Int} {b b' : AObj} (h : o < σ.length) : (stI (σ ++ [b]) o nl D).set σ.length b' = stI (σ ++ [b']) o nl D := by
 unfold stI
 rw [List.set_comm _ _ (by omega), List.set_append_right _ _ (Nat.le_refl _)]; simp
theorem stB_alloc {D : List Int} {b : AObj} (h : o < σ.length) : stI σ o nl D ++ [b] = stI (σ ++ [b]) o nl D := by
 unfold stI
 rw [List.set_append_left _ _ h]
theorem stI_len {D : List Int} : (stI σ o nl D).length = σ.length := List.length_set ..

theorem order2_int (S : Srt σ o nl g fs cs r p) {N a b : Nat} {n : Int} {D : List Int} {R : Post} (ha : a < N) (hb : b < N) (hD : D.length = N) (hp : ∀ x ∈ D, p x)
  (next : ∀ (n' : Int) (x y : Nat), (x = a ∧ y = b ∨ x = b ∧ y = a) → R (.tup [.int .i64 x, .int .i64 y]) (stI (σ ++ [boxI n']) o nl D)) : Cw T false i_X14 [.ref o N 0 N 1, .int .i64 a, .int .i64 b, .ptr σ.length 1 0, .clo (.func g) fs cs] [] (stI (σ ++ [boxI n]) o nl D) R := by
 rw [cw_enter T_X14 (by simp), run_unfold X14.main.eq_1]
 have h1 : a < D.length := by omega
 have h2 : b < D.length := by omega
 have hget := stI_get (nl := nl) (D := D) (S.app [boxI n]).lt
 have hb1 := stB_get (nl := nl) (D := D) (b := boxI n) S.lt
 obtain ⟨c, hcr, hcall⟩ := (S.app [boxI n]).at D[b] D[a] D (hp _ (List.getElem_mem h2)) (hp _ (List.getElem_mem h1))
 cases hr : r D[b] D[a]
 ·have hcn : ¬ c < 0 := by simpa [hr] using hcr
  have := next n a b (.inl ⟨rfl, rfl⟩)
  simp (maxSteps := 2000000) only [go_sem, hget, hD, h1, h2, ha, hb, hcall, hcn]
  exact this
 ·have hcn : c < 0 := by simpa [hr] using hcr
  have := next (IntKind.i64.wrap (n + 1)) b a (.inr ⟨rfl, rfl⟩)
  simp (maxSteps := 2000000) only [go_sem, hget, hb1, hD, h1, h2, ha, hb, hcall, hcn, stB_set S.lt]
  exact this

theorem median_int (S : Srt σ o nl g fs cs r p) {N a b c : Nat} {n : Int} {D : List Int} {R : Post} (ha : a < N) (hb : b < N) (hc : c < N) (hD : D.length = N) (hp : ∀ x ∈ D, p x)
  (next : ∀ (n' : Int) (x : Nat), (x = a ∨ x = b ∨ x = c) → R (.int .i64 x) (stI (σ ++ [boxI n']) o nl D)) : Cw T false i_X13 [.ref o N 0 N 1, .int .i64 a, .int .i64 b, .int .i64 c, .ptr σ.length 1 0, .clo (.func g) fs cs] [] (stI (σ ++ [boxI n]) o nl D) R := by
 rw [cw_enter T_X13 (by simp), run_unfold X13.main.eq_1]
 simp (maxSteps := 2000000) only [go_sem]
 unfold CallK
 refine order2_int S ha hb hD hp fun n1 x1 y1 h1 => ?_
 have hx1 : x1 < N := by omega
 have hy1 : y1 < N := by omega
 simp (maxSteps := 2000000) only [go_sem]
 unfold CallK
 refine order2_int S hy1 hc hD hp fun n2 x2 y2 h2 => ?_
 have hx2 : x2 < N := by omega
 simp (maxSteps := 2000000) only [go_sem]
 unfold CallK
 refine order2_int S hx1 hx2 hD hp fun n3 x3 y3 h3 => ?_
 have := next n3 y3 (by omega)
 simp (maxSteps := 2000000) only [go_sem]
 exact this

theorem medianAdjacent_int (S : Srt σ o nl g fs cs r p) {N a : Nat} {n : Int} {D : List Int} {R : Post} (h1 : 1 ≤ a) (ha : a + 1 < N) (hN : N < 1000000) (hD : D.length = N) (hp : ∀ x ∈ D, p x)
  (next : ∀ (n' : Int) (x : Nat), a ≤ x + 1 → x ≤ a + 1 → R (.int .i64 x) (stI (σ ++ [boxI n']) o nl D)) : Cw T false i_X1 [.ref o N 0 N 1, .int .i64 a, .ptr σ.length 1 0, .clo (.func g) fs cs] [] (stI (σ ++ [boxI n]) o nl D) R := by
 rw [cw_enter T_X1 (by simp), run_unfold X1.main.eq_1]
 have w : IntKind.i64.wrap ((a : Int) - 1) = ((a - 1 : Nat) : Int) := by rw [wrap_i64 (by omega) (by omega)]; omega
 simp (maxSteps := 2000000) only [go_sem, w, wrap_succ (show a < 9223372036854775807 by omega)]
 unfold CallK
 refine median_int S (by omega) (by omega) ha hD hp fun n' x hx => ?_
 have := next n' x (by omega) (by omega)
 simp (maxSteps := 2000000) only [go_sem]
 exact this

theorem choosePivot_int (S : Srt σ o nl g fs cs r p) {N a b : Nat} {D : List Int} {R : Post} (hN : N < 1000000) (hab : a + 12 < b) (hbN : b ≤ N) (hD : D.length = N) (hp : ∀ x ∈ D, p x)
  (next : ∀ (n h : Int) (x : Nat), a ≤ x → x < b → R (.tup [.int .i64 x, .int .i64 h]) (stI (σ ++ [boxI n]) o nl D)) : Cw T false i_X6 [.ref o N 0 N 1, .int .i64 a, .int .i64 b, .clo (.func g) fs cs] [] (stI σ o nl D) R := by
 rw [cw_enter T_X6 (by simp), run_unfold X6.main.eq_1]
 have w1 := isub (a := b) (b := a) (by omega) (by omega)
 have w2 : IntKind.i64.wrap (Int.tdiv ((b - a : Nat) : Int) 4) = (((b - a) / 4 : Nat) : Int) := by
  have : Int.tdiv ((b - a : Nat) : Int) 4 = (((b - a) / 4 : Nat) : Int) := rfl
  rw [this, wrap_i64 (by omega) (by omega)]
 obtain ⟨q, hq⟩ : ∃ q, (b - a) / 4 = q := ⟨_, rfl⟩
 rw [hq] at w2
 have hq4 : q * 4 ≤ b - a := by omega
 have hq1 : 3 ≤ q := by omega
 have w3 : IntKind.i64.wrap ((q : Int) * 1) = (q : Int) := by rw [wrap_i64 (by omega) (by omega)]; omega
 have w4 : IntKind.i64.wrap ((q : Int) * 2) = ((q * 2 : Nat) : Int) := by rw [wrap_i64 (by omega) (by omega)]; omega
 have w5 : IntKind.i64.wrap ((q : Int) * 3) = ((q * 3 : Nat) : Int) := by rw [wrap_i64 (by omega) (by omega)]; omega
 have w6 := iadd (a := a) (b := q) (by omega)
 have w7 := iadd (a := a) (b := q * 2) (by omega)
 have w8 := iadd (a := a) (b := q * 3) (by omega)
 have e1 : (8 : Int) ≤ ((b - a : Nat) : Int) := by omega
 have hlen := stI_len (σ := σ) (o := o) (nl := nl) (D := D)
 have fin : ∀ (n : Int) (x : Nat), a ≤ x → x < b → Run T (Ret [.tmp 8, .tmp 9] R) [.code X6.c0] (mkE 63 [(11, .ptr σ.length 1 0), (13, .int .i64 x)]) (stI (σ ++ [boxI n]) o nl D) := by
  intro n x hx hxb
  have hb1 := stB_get (nl := nl) (D := D) (b := boxI n) S.lt
  have k0 := next n 1 x hx hxb
  have k1 := next n 2 x hx hxb
  have k2 := next n 0 x hx hxb
  rw [run_unfold X6.c0.eq_1]
  by_cases h0 : n = 0
  ·subst h0
   simp (maxSteps := 2000000) only [go_sem, hb1]
   exact k0
  ·by_cases h12 : n = 12
   ·subst h12
    simp (maxSteps := 2000000) only [go_sem, hb1]
    exact k1
   ·simp (maxSteps := 2000000) only [go_sem, hb1, h0, h12]
    exact k2
 have med : ∀ (n : Int) (i j k : Nat), a ≤ i → i < b → a ≤ j → j < b → a ≤ k → k < b → Run T (Ret [.tmp 8, .tmp 9] R) [.code X6.c2, .code X6.c1, .code X6.c0] (mkE 63 [(0, .ref o N 0 N 1), (3, .clo (.func g) fs cs), (11, .ptr σ.length 1 0), (12, .int .i64 i), (13, .int .i64 j), (14, .int .i64 k)]) (stI (σ ++ [boxI n]) o nl D) := by
  intro n i j k hi hi' hj hj' hk hk'
  rw [run_unfold X6.c2.eq_1]
  simp (maxSteps := 2000000) only [go_sem]
  unfold CallK
  refine median_int S (by omega) (by omega) (by omega) hD hp fun n' x hx => ?_
  have := fin n' x (by omega) (by omega)
  simp (maxSteps := 2000000) only [go_sem, run_unfold X6.c1.eq_1]
  exact this
 by_cases e2 : 50 ≤ b - a
 ·have e2' : (50 : Int) ≤ ((b - a : Nat) : Int) := by omega
  simp (maxSteps := 2000000) only [go_sem, w1, w2, w3, w4, w5, w6, w7, w8, e1, e2', hlen, stB_alloc S.lt, show ¬ ((4 : Int) = 0) by omega]
  unfold CallK
  refine medianAdjacent_int S (by omega) (by omega) hN hD hp fun n1 x1 h1 h1' => ?_
  simp (maxSteps := 2000000) only [go_sem]
  unfold CallK
  refine medianAdjacent_int S (by omega) (by omega) hN hD hp fun n2 x2 h2 h2' => ?_
  simp (maxSteps := 2000000) only [go_sem]
  unfold CallK
  refine medianAdjacent_int S (by omega) (by omega) hN hD hp fun n3 x3 h3 h3' => ?_
  have := med n3 x1 x2 x3 (by omega) (by omega) (by omega) (by omega) (by omega) (by omega)
  simp (maxSteps := 2000000) only [go_sem]
  exact this
 ·have e2' : ¬ (50 : Int) ≤ ((b - a : Nat) : Int) := by omega
  have := med 0 (a + q) (a + q * 2) (a + q * 3) (by omega) (by omega) (by omega) (by omega) (by omega) (by omega)
  simp (maxSteps := 2000000) only [go_sem, w1, w2, w3, w4, w5, w6, w7, w8, e1, e2', hlen, stB_alloc S.lt, show ¬ ((4 : Int) = 0) by omega]
  exact this
end
end Go.Abs
/- Walks of the library's sorting: patterns broken. -/
set_option linter.unusedSimpArgs false
set_option linter.unusedVariables false
set_option maxRecDepth 100000
set_option maxHeartbeats 4000000
namespace Go.Abs
open Go
attribute [local go_sem_proc] Nat.reduceLT Nat.reduceEqDiff Nat.reduceLeDiff Nat.reduceAdd Nat.reduceSub Nat.reduceMul Int.reduceLT Int.reduceLE Int.reduceEq Int.reduceNeg
attribute [local go_sem_proc ↓] reduceIte

section
variable {σ : Sto} {o : Nat} {nl : Bool} {g : FuncId} {fs cs : List AVal} {r : Int → Int → Bool} {p : Int → Prop}

abbrev boxU (n : Int) : AObj := .cells false [.int .u64 n]
theorem wrapu {n : Nat} (h : n < 18446744073709551616) : IntKind.u64.wrap (n : Int) = (n : Int) := by
 have e1 : (2 : Int) ^ IntKind.u64.bits = 18446744073709551616 := by decide
 have e3 : IntKind.u64.signed = false := rfl
 simp only [IntKind.wrap, e1, e3, Bool.false_and, Bool.false_eq_true, if_false]
 omega
theorem and_u64 (v : Int) (m : Nat) (h : m < 18446744073709551616) : ∃ x : Nat, x ≤ m ∧ ∀ σ : Sto, binV .and (.int .u64 v) (.int .u64 (m : Int)) σ = some (.int .u64 (x : Int), σ) := by
 refine ⟨(BitVec.ofInt IntKind.u64.bits v &&& BitVec.ofInt IntKind.u64.bits (m : Int)).toNat, ?_, fun σ => ?_⟩
 ·rw [BitVec.toNat_and]
  refine Nat.le_trans Nat.and_le_right ?_
  rw [BitVec.toNat_ofInt]
  have e1 : ((2 ^ IntKind.u64.bits : Nat) : Int) = 18446744073709551616 := by decide
  rw [e1]
  omega
 ·have hlt : (BitVec.ofInt IntKind.u64.bits v &&& BitVec.ofInt IntKind.u64.bits (m : Int)).toNat < 18446744073709551616 := by
   have := (BitVec.ofInt IntKind.u64.bits v &&& BitVec.ofInt IntKind.u64.bits (m : Int)).isLt
   have e1 : 2 ^ IntKind.u64.bits = 18446744073709551616 := by decide
   rwa [e1] at this
  simp only [binV, binA, binInt, if_true, wrapu hlt]
  rfl
theorem shl_u64 (a b : Nat) (v : Int) : ∃ x : Int, ∀ σ : Sto, binV .shl (.int .u64 v) (.int .u64 (b : Int)) σ = some (.int .u64 x, σ) := by
 refine ⟨IntKind.u64.wrap (v * 2 ^ (min (b : Int).toNat IntKind.u64.bits)), fun σ => ?_⟩
 ·simp only [binV, binA]
  rw [if_neg (by omega)]
  rfl
theorem shr_u64 (a b : Nat) (v : Int) : ∃ x : Int, ∀ σ : Sto, binV .shr (.int .u64 v) (.int .u64 (b : Int)) σ = some (.int .u64 x, σ) := by
 refine ⟨v.fdiv (2 ^ (min (b : Int).toNat IntKind.u64.bits)), fun σ => ?_⟩
 ·simp only [binV, binA]
  rw [if_neg (by omega)]
  rfl
theorem xor_u64 (v w : Int) : ∃ x : Int, ∀ σ : Sto, binV .xor (.int .u64 v) (.int .u64 w) σ = some (.int .u64 x, σ) :=
 ⟨_, fun σ => by simp only [binV, binA, binInt, if_true]; rfl⟩

theorem xorshift_int (ho : o < σ.length) {v : Int} {D : List Int} {R : Post}
  (next : ∀ v' : Int, R (.int .u64 v') (stI (σ ++ [boxU v']) o nl D)) : Cw T false i_X18 [.ptr σ.length 1 0] [] (stI (σ ++ [boxU v]) o nl D) R := by
 rw [cw_enter T_X18 (by simp), run_unfold X18.main.eq_1]
 obtain ⟨x1, h1⟩ := shl_u64 0 13 v
 obtain ⟨x2, h2⟩ := xor_u64 v x1
 obtain ⟨x3, h3⟩ := shr_u64 0 7 x2
 obtain ⟨x4, h4⟩ := xor_u64 x2 x3
 obtain ⟨x5, h5⟩ := shl_u64 0 17 x4
 obtain ⟨x6, h6⟩ := xor_u64 x4 x5
 have g1 := stB_get (nl := nl) (D := D) (b := boxU v) ho
 have g2 := stB_get (nl := nl) (D := D) (b := boxU x2) ho
 have g3 := stB_get (nl := nl) (D := D) (b := boxU x4) ho
 have g4 := stB_get (nl := nl) (D := D) (b := boxU x6) ho
 have := next x6
 simp only [show ((13 : Nat) : Int) = 13 from rfl, show ((7 : Nat) : Int) = 7 from rfl, show ((17 : Nat) : Int) = 17 from rfl] at h1 h3 h5
 simp (maxSteps := 2000000) only [go_sem, g1, g2, g3, g4, h1, h2, h3, h4, h5, h6, stB_set ho]
 exact this

def pw (n : Nat) : Nat := if n < 16 then 16 else if n < 32 then 32 else if n < 64 then 64 else if n < 128 then 128 else if n < 256 then 256 else 512
def isU64 (v : Int) : AVal → Bool
 | .int .u64 k => decide (k = v)
 | _ => false
theorem pows_all : (((List.range 301).drop 13).all fun n => fSays T 100 i_X16 [.int .i64 (n : Int)] (isU64 (pw n))) = true := by kernel_rfl
theorem pows {n : Nat} (h : 13 ≤ n) (h' : n ≤ 300) {lv : List Nat} {σ : Sto} {R : Post} : Cw T true i_X16 [.int .i64 (n : Int)] lv σ R ↔ R (.int .u64 (pw n)) σ := by
 have := List.all_eq_true.1 pows_all n (by
  have : (List.range 301).drop 13 = List.range' 13 288 := by decide
  rw [this, List.mem_range'_1]; omega)
 refine cw_says T_X16 (by simp (maxSteps := 2000000) only [go_sem]) (fun u h => ?_) this
 unfold isU64 at h
 split at h
 ·rw [of_decide_eq_true h]
 ·cases h
theorem pw_bnd {n : Nat} (h : 13 ≤ n) (h' : n ≤ 300) : n < pw n ∧ pw n ≤ 2 * n := by
 unfold pw
 repeat' split
 all_goals omega

theorem break_b0 (ho : o < σ.length) {N a b t : Nat} {R : Post} (hb : a + 13 ≤ b) (h300 : b - a ≤ 300) (hbN : b ≤ N) (hN : N < 1000000) (ht : (b - a) / 4 * 2 = t) : ∀ (m i : Nat) (v : Int) (D : List Int), a + t + 2 - i = m → D.length = N → a + 1 ≤ i →
  (∀ (v' : Int) D', Seg a b D D' → R (.tup []) (stI (σ ++ [boxU v']) o nl D')) →
  Run T (Ret [] R) (.inLoop X4.b0 :: X4.k0) (mkE 67 [(0, .ref o N 0 N 1), (1, .int .i64 a), (8, .int .i64 ((b - a : Nat) : Int)), (9, .ptr σ.length 1 0), (10, .int .u64 (pw (b - a))), (11, .int .i64 i)]) (stI (σ ++ [boxU v]) o nl D) := by
 have w2 : IntKind.i64.wrap (Int.tdiv ((b - a : Nat) : Int) 4) = (((b - a) / 4 : Nat) : Int) := by
  have : Int.tdiv ((b - a : Nat) : Int) 4 = (((b - a) / 4 : Nat) : Int) := rfl
  rw [this, wrap_i64 (by omega) (by omega)]
 have w3 : IntKind.i64.wrap ((((b - a) / 4 : Nat) : Int) * 2) = (t : Int) := by rw [wrap_i64 (by omega) (by omega)]; omega
 have w4 := iadd (a := a) (b := t) (by omega)
 have w5 := wrap_succ (n := a + t) (by omega)
 intro m
 induction m with
 | zero =>
  intro i v D hm hD hi next
  have hlt : ¬ (i : Int) ≤ ((a + t + 1 : Nat) : Int) := by omega
  have := next v D (Seg.refl _ _ _)
  rw [run_round, run_unfold X4.b0.eq_1]
  simp (maxSteps := 2000000) only [go_sem, w2, w3, w4, w5, hlt, run_unfold X4.c0.eq_1, run_unfold X4.c1.eq_1, run_unfold X4.c2.eq_1, run_unfold X4.c3.eq_1, X4.k0, show ¬ ((4 : Int) = 0) by omega]
  exact this
 | succ m ih =>
  intro i v D hm hD hi next
  have hlt : (i : Int) ≤ ((a + t + 1 : Nat) : Int) := by omega
  obtain ⟨q1, q2⟩ := pw_bnd (n := b - a) (by omega) h300
  have hwm : IntKind.u64.wrap ((pw (b - a) : Int) - 1) = ((pw (b - a) - 1 : Nat) : Int) := by
   have := wrapu (n := pw (b - a) - 1) (by omega)
   rw [show (pw (b - a) : Int) - 1 = ((pw (b - a) - 1 : Nat) : Int) by omega]; exact this
  rw [run_round, run_unfold X4.b0.eq_1]
  simp (maxSteps := 2000000) only [go_sem, w2, w3, w4, w5, hlt, show ¬ ((4 : Int) = 0) by omega]
  unfold CallK
  refine xorshift_int ho fun v' => ?_
  obtain ⟨x, hx, hand⟩ := and_u64 v' (pw (b - a) - 1) (by omega)
  have wx : IntKind.i64.wrap (x : Int) = (x : Int) := wrap_i64 (by omega) (by omega)
  have swp : ∀ y : Nat, a + y < b → Run T (Ret [] R) (.code X4.c3 :: .inBlock 1 :: .code X4.c2 :: .inLoop X4.b0 :: X4.k0) (mkE 67 [(0, .ref o N 0 N 1), (1, .int .i64 a), (8, .int .i64 ((b - a : Nat) : Int)), (9, .ptr σ.length 1 0), (10, .int .u64 (pw (b - a))), (11, .int .i64 i), (12, .int .i64 y)]) (stI (σ ++ [boxU v']) o nl D) := by
   intro y hy
   have h1 : i < D.length := by omega
   have h2 : a + y < D.length := by omega
   have h1N : i < N := by omega
   have h2N : a + y < N := by omega
   have hk1 : i + 1 ≤ N := by omega
   have hk2 : a + y + 1 ≤ N := by omega
   have w6 := iadd (a := a) (b := y) (by omega)
   have ho' : o < (σ ++ [boxU v']).length := by simp; omega
   have hget := stI_get (nl := nl) (D := D) ho'
   have hget2 := stI_get (nl := nl) (D := D.set i D[a + y]) ho'
   have := ih (i + 1) v' (sw D i (a + y)) (by omega) (by rw [sw_len]; exact hD) (by omega) fun v'' D' h => next v'' D' ((Seg.swap (by omega) (by omega) (by omega) (by omega) (by omega)).trans h)
   rw [run_unfold X4.c3.eq_1]
   simp (maxSteps := 2000000) only [go_sem, hget, hget2, hD, h1, h2, h1N, h2N, hk1, hk2, w6, stI_set, List.length_set, List.length_map, run_unfold X4.c2.eq_1, wrap_succ (show i < 9223372036854775807 by omega)]
   rw [sw_eq h1 h2]
   exact this
  by_cases hge : b - a ≤ x
  ·have hge' : ((b - a : Nat) : Int) ≤ (x : Int) := by omega
   have w7 := isub (a := x) (b := b - a) (by omega) hge
   have := swp (x - (b - a)) (by omega)
   simp (maxSteps := 2000000) only [go_sem, hwm, hand, wx, hge', w7]
   exact this
  ·have hge' : ¬ ((b - a : Nat) : Int) ≤ (x : Int) := by omega
   have := swp x (by omega)
   simp (maxSteps := 2000000) only [go_sem, hwm, hand, wx, hge']
   exact this

theorem breakPatterns_int (ho : o < σ.length) {N a b : Nat} {D : List Int} {R : Post} (hb : a + 13 ≤ b) (h300 : b - a ≤ 300) (hbN : b ≤ N) (hN : N < 1000000) (hD : D.length = N)
  (next : ∀ (v' : Int) D', Seg a b D D' → R (.tup []) (stI (σ ++ [boxU v']) o nl D')) : Cw T false i_X4 [.ref o N 0 N 1, .int .i64 a, .int .i64 b, .clo (.func g) fs cs] [] (stI σ o nl D) R := by
 rw [cw_enter T_X4 (by simp), run_unfold X4.main.eq_1]
 obtain ⟨t, ht⟩ : ∃ t, (b - a) / 4 * 2 = t := ⟨_, rfl⟩
 have w1 := isub (a := b) (b := a) (by omega) (by omega)
 have w2 : IntKind.i64.wrap (Int.tdiv ((b - a : Nat) : Int) 4) = (((b - a) / 4 : Nat) : Int) := by
  have : Int.tdiv ((b - a : Nat) : Int) 4 = (((b - a) / 4 : Nat) : Int) := rfl
  rw [this, wrap_i64 (by omega) (by omega)]
 have w3 : IntKind.i64.wrap ((((b - a) / 4 : Nat) : Int) * 2) = (t : Int) := by rw [wrap_i64 (by omega) (by omega)]; omega
 have w4 := iadd (a := a) (b := t) (by omega)
 have w5 : IntKind.i64.wrap (((a + t : Nat) : Int) - 1) = ((a + t - 1 : Nat) : Int) := by rw [wrap_i64 (by omega) (by omega)]; omega
 have e8 : (8 : Int) ≤ ((b - a : Nat) : Int) := by omega
 have wu := wrapu (n := b - a) (by omega)
 have hlen := stI_len (σ := σ) (o := o) (nl := nl) (D := D)
 have hpw := fun (Q : Post3) (k : List Item) (os : List AOper) (d : Option Nat) (e : Env) (σ : Sto) => callK_of (T := T) (Q := Q) (k := k) (os := os) (d := d) (e := e) (σ := σ) (pows (n := b - a) (by omega) h300)
 have := break_b0 (nl := nl) (R := R) ho hb h300 hbN hN ht _ (a + t - 1) ((b - a : Nat) : Int) D rfl hD (by omega) next
 simp (maxSteps := 2000000) only [go_sem, w1, w2, w3, w4, w5, e8, wu, hlen, stB_alloc ho, stB_set ho, hpw, stB_get ho, show ¬ ((4 : Int) = 0) by omega]
 exact this
end
end Go.Abs
/- Walks of the library's sorting: the whole. -/
set_option linter.unusedSimpArgs false
set_option linter.unusedVariables false
set_option maxRecDepth 100000
set_option maxHeartbeats 4000000
namespace Go.Abs
open Go
attribute [local go_sem_proc] Nat.reduceLT Nat.reduceEqDiff Nat.reduceLeDiff Nat.reduceAdd Nat.reduceSub Nat.reduceMul Int.reduceLT Int.reduceLE Int.reduceEq Int.reduceNeg
attribute [local go_sem_proc ↓] reduceIte

section
variable {σ : Sto} {o : Nat} {nl : Bool} {g : FuncId} {fs cs : List AVal} {r : Int → Int → Bool} {p : Int → Prop}

def LeftOk (r : Int → Int → Bool) (D : List Int) (a b : Nat) : Prop := 0 < a → ∀ k, a ≤ k → k < b → r (gd D k) (gd D (a - 1)) = false
theorem LeftOk.seg {D D' : List Int} {a b : Nat} (h : LeftOk r D a b) (hs : Seg a b D D') : LeftOk r D' a b := fun h0 => by
 rw [hs.out (a - 1) (by omega)]
 exact hs.seg (fun x => r x (gd D (a - 1)) = false) (h h0)
theorem nodup_gd {D : List Int} (h : D.Nodup) {i j : Nat} (hi : i < D.length) (hj : j < D.length) (hne : i ≠ j) : gd D i ≠ gd D j := by
 rw [gd_get hi, gd_get hj]
 have := List.pairwise_iff_getElem.1 h
 rcases Nat.lt_or_gt_of_ne hne with hlt | hlt
 ·exact this i j hi hj hlt
 ·exact fun e => this j i hj hi hlt e.symm
theorem glue (hO : Ord3 r p) {D : List Int} {a b mid : Nat} (hp : ∀ x ∈ D, p x) (hb : b ≤ D.length) (h1 : a ≤ mid) (h2 : mid < b) (s1 : SortedOn r D a mid) (s2 : SortedOn r D (mid + 1) b) (l : ∀ k, a ≤ k → k < mid → r (gd D k) (gd D mid) = true) (m : ∀ k, mid < k → k < b → r (gd D k) (gd D mid) = false) : SortedOn r D a b := by
 have l' : ∀ k, a ≤ k → k < mid → r (gd D mid) (gd D k) = false := fun k hk hk' => hO.asym _ _ (hp _ (gd_mem (by omega))) (hp _ (gd_mem (by omega))) (l k hk hk')
 intro u v hu huv hv
 by_cases e1 : v < mid
 ·exact s1 u v hu huv e1
 ·by_cases e2 : v = mid
  ·subst e2; exact l' u hu huv
  ·by_cases e3 : mid < u
   ·exact s2 u v (by omega) huv hv
   ·by_cases e4 : u = mid
    ·subst e4; exact m v huv hv
    ·exact hO.trans _ _ _ (hp _ (gd_mem (by omega))) (hp _ (gd_mem (by omega))) (hp _ (gd_mem (by omega))) (m v (by omega) hv) (l' u hu (by omega))

def PdqAt (σ : Sto) (o : Nat) (nl : Bool) (g : FuncId) (fs cs : List AVal) (r : Int → Int → Bool) (p : Int → Prop) (N m : Nat) : Prop :=
 ∀ (E : Sto) (a b lim : Nat) (wb wp : Bool) (D : List Int) (R : Post), b - a ≤ m → a ≤ b → b ≤ N → lim < 1000 → D.length = N → (∀ x ∈ D, p x) → D.Nodup → LeftOk r D a b →
  (∀ E' D', Seg a b D D' → SortedOn r D' a b → R (.tup []) (stI (σ ++ E') o nl D')) →
  Run T (Ret [] R) (.inLoop X10.b0 :: X10.k0) (mkE 148 [(0, .ref o N 0 N 1), (1, .int .i64 a), (2, .int .i64 b), (3, .int .i64 lim), (4, .clo (.func g) fs cs), (10, .bool wb), (11, .bool wp)]) (stI (σ ++ E) o nl D)

theorem pdq_call {N m : Nat} (hm : PdqAt σ o nl g fs cs r p N m) {E : Sto} {a b lim : Nat} {D : List Int} {R : Post} (h1 : b - a ≤ m) (h2 : a ≤ b) (h3 : b ≤ N) (h4 : lim < 1000) (h5 : D.length = N) (h6 : ∀ x ∈ D, p x) (h7 : D.Nodup) (h8 : LeftOk r D a b)
  (next : ∀ E' D', Seg a b D D' → SortedOn r D' a b → R (.tup []) (stI (σ ++ E') o nl D')) : Cw T false i_X10 [.ref o N 0 N 1, .int .i64 a, .int .i64 b, .int .i64 lim, .clo (.func g) fs cs] [] (stI (σ ++ E) o nl D) R := by
 rw [cw_enter T_X10 (by simp), run_unfold X10.main.eq_1]
 simp (maxSteps := 2000000) only [go_sem]
 exact hm E a b lim true true D R h1 h2 h3 h4 h5 h6 h7 h8 next

theorem pdq_c0 (S : Srt σ o nl g fs cs r p) {N m a b lim pv len : Nat} {wb wp : Bool} {E : Sto} {D : List Int} {R : Post} (hN : N < 1000000) (hm : PdqAt σ o nl g fs cs r p N m) (hab : a + 12 < b) (hbm : b - a ≤ m + 1) (hbN : b ≤ N) (hlim : lim < 1000) (hlen : len < 1000000) (hap : a ≤ pv) (hpb : pv < b) (hD : D.length = N) (hp : ∀ x ∈ D, p x) (hnd : D.Nodup) (hl : LeftOk r D a b)
  (next : ∀ E' D', Seg a b D D' → SortedOn r D' a b → R (.tup []) (stI (σ ++ E') o nl D')) :
  Run T (Ret [] R) (.code X10.c0 :: .inBlock 1 :: .inLoop X10.b0 :: X10.k0) (mkE 148 [(0, .ref o N 0 N 1), (1, .int .i64 a), (2, .int .i64 b), (3, .int .i64 lim), (4, .clo (.func g) fs cs), (10, .bool wb), (11, .bool wp), (12, .int .i64 len), (13, .int .i64 pv)]) (stI (σ ++ E) o nl D) := by
 have SE := S.app E
 have h1 : pv < D.length := by omega
 have h1N : pv < N := by omega
 have hget := stI_get (nl := nl) (D := D) SE.lt
 have w8 : IntKind.i64.wrap (Int.tdiv (len : Int) 8) = ((len / 8 : Nat) : Int) := by
  have : Int.tdiv (len : Int) 8 = ((len / 8 : Nat) : Int) := rfl
  rw [this, wrap_i64 (by omega) (by omega)]
 rw [run_unfold X10.c0.eq_1]
 have fin : ∀ (mid : Nat) (D1 : List Int) (x : Bool), a ≤ mid → mid < b → Seg a b D D1 → (∀ k, a ≤ k → k < mid → r (gd D1 k) (gd D1 mid) = true) → (∀ k, mid < k → k < b → r (gd D1 k) (gd D1 mid) = false) →
   (∀ x ∈ D1, p x) ∧ D1.length = N ∧ D1.Nodup ∧ LeftOk r D1 a mid ∧ LeftOk r D1 (mid + 1) b ∧
   (∀ (wb : Bool) E' D2, Seg a mid D1 D2 → SortedOn r D2 a mid → Run T (Ret [] R) (.inLoop X10.b0 :: X10.k0) (mkE 148 [(0, .ref o N 0 N 1), (1, .int .i64 ((mid + 1 : Nat) : Int)), (2, .int .i64 b), (3, .int .i64 lim), (4, .clo (.func g) fs cs), (10, .bool wb), (11, .bool x)]) (stI (σ ++ E') o nl D2)) ∧
   (∀ (wb : Bool) E' D2, Seg (mid + 1) b D1 D2 → SortedOn r D2 (mid + 1) b → Run T (Ret [] R) (.inLoop X10.b0 :: X10.k0) (mkE 148 [(0, .ref o N 0 N 1), (1, .int .i64 a), (2, .int .i64 mid), (3, .int .i64 lim), (4, .clo (.func g) fs cs), (10, .bool wb), (11, .bool x)]) (stI (σ ++ E') o nl D2)) := by
  intro mid D1 x q1 q2 q3 q4 q5
  have hp1 : ∀ x ∈ D1, p x := fun x hx => hp x (q3.perm.mem_iff.1 hx)
  have hD1 : D1.length = N := q3.len.trans hD
  have hnd1 : D1.Nodup := q3.perm.nodup_iff.2 hnd
  have hl1 := hl.seg q3
  have hll : LeftOk r D1 a mid := fun h0 k hk hk' => hl1 h0 k hk (by omega)
  have hlr : LeftOk r D1 (mid + 1) b := fun _ k hk hk' => by rw [Nat.add_sub_cancel]; exact q5 k (by omega) hk'
  have done : ∀ (D2 D3 : List Int), Seg a mid D1 D2 → SortedOn r D2 a mid → Seg (mid + 1) b D2 D3 → SortedOn r D3 (mid + 1) b → Seg a b D D3 ∧ SortedOn r D3 a b := by
   intro D2 D3 k1 k2 k3 k4
   have hs : Seg a b D1 D3 := (k1.mono (Nat.le_refl _) (by omega)).trans (k3.mono (by omega) (Nat.le_refl _))
   have em : gd D3 mid = gd D1 mid := by rw [k3.out mid (by omega), k1.out mid (by omega)]
   refine ⟨q3.trans hs, glue S.toOrd3 (fun x hx => hp1 x (hs.perm.mem_iff.1 hx)) (by rw [hs.len]; omega) q1 q2 (fun u v hu huv hv => by rw [k3.out u (by omega), k3.out v (by omega)]; exact k2 u v hu huv hv) k4 (fun k hk hk' => ?_) fun k hk hk' => ?_⟩
   ·rw [em, k3.out k (by omega)]
    exact k1.seg (fun x => r x (gd D1 mid) = true) q4 k hk hk'
   ·rw [em]
    refine k3.seg (fun x => r x (gd D1 mid) = false) (fun k hk hk' => ?_) k (by omega) hk'
    rw [k1.out k (by omega)]; exact q5 k (by omega) hk'
  have done' : ∀ (D2 D3 : List Int), Seg (mid + 1) b D1 D2 → SortedOn r D2 (mid + 1) b → Seg a mid D2 D3 → SortedOn r D3 a mid → Seg a b D D3 ∧ SortedOn r D3 a b := by
   intro D2 D3 k1 k2 k3 k4
   have hs : Seg a b D1 D3 := (k1.mono (by omega) (Nat.le_refl _)).trans (k3.mono (Nat.le_refl _) (by omega))
   have em : gd D3 mid = gd D1 mid := by rw [k3.out mid (by omega), k1.out mid (by omega)]
   refine ⟨q3.trans hs, glue S.toOrd3 (fun x hx => hp1 x (hs.perm.mem_iff.1 hx)) (by rw [hs.len]; omega) q1 q2 k4 (fun u v hu huv hv => by rw [k3.out u (by omega), k3.out v (by omega)]; exact k2 u v hu huv hv) (fun k hk hk' => ?_) fun k hk hk' => ?_⟩
   ·rw [em]
    refine k3.seg (fun x => r x (gd D1 mid) = true) (fun k hk hk' => ?_) k hk hk'
    rw [k1.out k (by omega)]; exact q4 k hk hk'
   ·rw [em, k3.out k (by omega)]
    exact k1.seg (fun x => r x (gd D1 mid) = false) (fun k hk hk' => q5 k (by omega) hk') k (by omega) hk'
  refine ⟨hp1, hD1, hnd1, hll, hlr, fun wb E' D2 k1 k2 => ?_, fun wb E' D2 k1 k2 => ?_⟩
  ·have hlr2 : LeftOk r D2 (mid + 1) b := fun h0 k hk hk' => by rw [Nat.add_sub_cancel, k1.out k (by omega), k1.out mid (by omega)]; exact q5 k (by omega) hk'
   refine hm E' (mid + 1) b lim wb x D2 R (by omega) (by omega) hbN hlim (k1.len.trans hD1) (fun x hx => hp1 x (k1.perm.mem_iff.1 hx)) (k1.perm.nodup_iff.2 hnd1) hlr2 fun E'' D3 k3 k4 => ?_
   obtain ⟨f1, f2⟩ := done D2 D3 k1 k2 k3 k4
   exact next E'' D3 f1 f2
  ·have hll2 : LeftOk r D2 a mid := fun h0 k hk hk' => by rw [k1.out k (by omega), k1.out (a - 1) (by omega)]; exact hl1 h0 k hk (by omega)
   refine hm E' a mid lim wb x D2 R (by omega) q1 (by omega) hlim (k1.len.trans hD1) (fun x hx => hp1 x (k1.perm.mem_iff.1 hx)) (k1.perm.nodup_iff.2 hnd1) hll2 fun E'' D3 k3 k4 => ?_
   obtain ⟨f1, f2⟩ := done' D2 D3 k1 k2 k3 k4
   exact next E'' D3 f1 f2
 by_cases h0 : 0 < a
 ·have h0' : (0 : Int) < (a : Int) := by omega
  have h2 : a - 1 < D.length := by omega
  have h2N : a - 1 < N := by omega
  have w1 : IntKind.i64.wrap ((a : Int) - 1) = ((a - 1 : Nat) : Int) := by rw [wrap_i64 (by omega) (by omega)]; omega
  obtain ⟨c, hcr, hcall⟩ := SE.at D[a - 1] D[pv] D (hp _ (List.getElem_mem h2)) (hp _ (List.getElem_mem h1))
  have hr : r D[a - 1] D[pv] = true := by
   have hne := nodup_gd hnd h2 h1 (by omega)
   have hno := hl h0 pv hap hpb
   rw [gd_get h1, gd_get h2] at hno
   rw [gd_get h1, gd_get h2] at hne
   rcases S.tot _ _ (hp _ (List.getElem_mem h2)) (hp _ (List.getElem_mem h1)) hne with h | h
   ·exact h
   ·rw [hno] at h; cases h
  have hcn : c < 0 := by simpa [hr] using hcr
  simp (maxSteps := 2000000) only [go_sem, h0', hget, hD, h1, h2, h1N, h2N, w1, hcall, hcn]
  unfold CallK
  refine partition_int SE hN hap hpb hbN hD hp fun mid D1 x q1 q2 q3 q4 q5 => ?_
  obtain ⟨f1, f2, f3, f4, f5, f6, f7⟩ := fin mid D1 x q1 q2 q3 q4 q5
  have w2 := isub (a := mid) (b := a) (by omega) (by omega)
  have w3 := isub (a := b) (b := mid) (by omega) (by omega)
  by_cases hlr : mid - a < b - mid
  ·have hlr' : ((mid - a : Nat) : Int) < ((b - mid : Nat) : Int) := by omega
   simp (maxSteps := 2000000) only [go_sem, w2, w3, w8, hlr', show ¬ ((8 : Int) = 0) by omega]
   unfold CallK
   refine pdq_call hm (by omega) q1 (by omega) hlim f2 f1 f3 f4 fun E' D2 k1 k2 => ?_
   have := f6 (decide (((len / 8 : Nat) : Int) ≤ ((mid - a : Nat) : Int))) E' D2 k1 k2
   simp (maxSteps := 2000000) only [go_sem, wrap_succ (show mid < 9223372036854775807 by omega)]
   exact this
  ·have hlr' : ¬ ((mid - a : Nat) : Int) < ((b - mid : Nat) : Int) := by omega
   simp (maxSteps := 2000000) only [go_sem, w2, w3, w8, hlr', wrap_succ (show mid < 9223372036854775807 by omega), show ¬ ((8 : Int) = 0) by omega]
   unfold CallK
   refine pdq_call hm (by omega) (by omega) hbN hlim f2 f1 f3 f5 fun E' D2 k1 k2 => ?_
   have := f7 (decide (((len / 8 : Nat) : Int) ≤ ((b - mid : Nat) : Int))) E' D2 k1 k2
   simp (maxSteps := 2000000) only [go_sem]
   exact this
 ·have h0' : ¬ (0 : Int) < (a : Int) := by omega
  simp (maxSteps := 2000000) only [go_sem, h0']
  unfold CallK
  refine partition_int SE hN hap hpb hbN hD hp fun mid D1 x q1 q2 q3 q4 q5 => ?_
  obtain ⟨f1, f2, f3, f4, f5, f6, f7⟩ := fin mid D1 x q1 q2 q3 q4 q5
  have w2 := isub (a := mid) (b := a) (by omega) (by omega)
  have w3 := isub (a := b) (b := mid) (by omega) (by omega)
  by_cases hlr : mid - a < b - mid
  ·have hlr' : ((mid - a : Nat) : Int) < ((b - mid : Nat) : Int) := by omega
   simp (maxSteps := 2000000) only [go_sem, w2, w3, w8, hlr', show ¬ ((8 : Int) = 0) by omega]
   unfold CallK
   refine pdq_call hm (by omega) q1 (by omega) hlim f2 f1 f3 f4 fun E' D2 k1 k2 => ?_
   have := f6 (decide (((len / 8 : Nat) : Int) ≤ ((mid - a : Nat) : Int))) E' D2 k1 k2
   simp (maxSteps := 2000000) only [go_sem, wrap_succ (show mid < 9223372036854775807 by omega)]
   exact this
  ·have hlr' : ¬ ((mid - a : Nat) : Int) < ((b - mid : Nat) : Int) := by omega
   simp (maxSteps := 2000000) only [go_sem, w2, w3, w8, hlr', wrap_succ (show mid < 9223372036854775807 by omega), show ¬ ((8 : Int) = 0) by omega]
   unfold CallK
   refine pdq_call hm (by omega) (by omega) hbN hlim f2 f1 f3 f5 fun E' D2 k1 k2 => ?_
   have := f7 (decide (((len / 8 : Nat) : Int) ≤ ((b - mid : Nat) : Int))) E' D2 k1 k2
   simp (maxSteps := 2000000) only [go_sem]
   exact this

theorem pdq_c1 (S : Srt σ o nl g fs cs r p) {N m a b lim pv len : Nat} {h : Int} {wb wp : Bool} {E : Sto} {D : List Int} {R : Post} (hN : N < 1000000) (hm : PdqAt σ o nl g fs cs r p N m) (hab : a + 12 < b) (hbm : b - a ≤ m + 1) (hbN : b ≤ N) (hlim : lim < 1000) (hlen : len < 1000000) (hap : a ≤ pv) (hpb : pv < b) (hD : D.length = N) (hp : ∀ x ∈ D, p x) (hnd : D.Nodup) (hl : LeftOk r D a b)
  (next : ∀ E' D', Seg a b D D' → SortedOn r D' a b → R (.tup []) (stI (σ ++ E') o nl D')) :
  Run T (Ret [] R) (.code X10.c1 :: .inBlock 1 :: .inLoop X10.b0 :: X10.k0) (mkE 148 [(0, .ref o N 0 N 1), (1, .int .i64 a), (2, .int .i64 b), (3, .int .i64 lim), (4, .clo (.func g) fs cs), (10, .bool wb), (11, .bool wp), (12, .int .i64 len), (13, .int .i64 pv), (14, .int .i64 h)]) (stI (σ ++ E) o nl D) := by
 have SE := S.app E
 have c0 := pdq_c0 (wb := wb) (wp := wp) (E := E) S hN hm hab hbm hbN hlim hlen hap hpb hD hp hnd hl next
 rw [run_unfold X10.c1.eq_1]
 cases wb with
 | false => simp (maxSteps := 2000000) only [go_sem]; exact c0
 | true =>
  cases wp with
  | false => simp (maxSteps := 2000000) only [go_sem]; exact c0
  | true =>
   by_cases h1 : h = 1
   ·simp (maxSteps := 2000000) only [go_sem, h1]
    unfold CallK
    refine partialInsertionSort_int SE hN (by omega) hbN hD hp hl fun D' x k1 k2 => ?_
    cases x with
    | true =>
     have := next E D' k1 (k2 rfl)
     simp (maxSteps := 2000000) only [go_sem]
     exact this
    | false =>
     have c0' := pdq_c0 (wb := true) (wp := true) (E := E) S hN hm hab hbm hbN hlim hlen hap hpb (k1.len.trans hD) (fun x hx => hp x (k1.perm.mem_iff.1 hx)) (k1.perm.nodup_iff.2 hnd) (hl.seg k1) fun E' D'' q1 q2 => next E' D'' (k1.trans q1) q2
     simp (maxSteps := 2000000) only [go_sem]
     exact c0'
   ·simp (maxSteps := 2000000) only [go_sem, h1]
    exact c0

theorem pdq_c2 (S : Srt σ o nl g fs cs r p) {N m a b lim len : Nat} {wb wp : Bool} {E : Sto} {D : List Int} {R : Post} (hN : N < 1000000) (hm : PdqAt σ o nl g fs cs r p N m) (hab : a + 12 < b) (hbm : b - a ≤ m + 1) (hbN : b ≤ N) (hlim : lim < 1000) (hlen : len < 1000000) (hD : D.length = N) (hp : ∀ x ∈ D, p x) (hnd : D.Nodup) (hl : LeftOk r D a b)
  (next : ∀ E' D', Seg a b D D' → SortedOn r D' a b → R (.tup []) (stI (σ ++ E') o nl D')) :
  Run T (Ret [] R) (.code X10.c2 :: .inBlock 1 :: .inLoop X10.b0 :: X10.k0) (mkE 148 [(0, .ref o N 0 N 1), (1, .int .i64 a), (2, .int .i64 b), (3, .int .i64 lim), (4, .clo (.func g) fs cs), (10, .bool wb), (11, .bool wp), (12, .int .i64 len)]) (stI (σ ++ E) o nl D) := by
 have SE := S.app E
 rw [run_unfold X10.c2.eq_1]
 simp (maxSteps := 2000000) only [go_sem]
 unfold CallK
 refine choosePivot_int SE hN hab hbN hD hp fun n h x hx hxb => ?_
 rw [List.append_assoc]
 by_cases h2 : h = 2
 ·simp (maxSteps := 2000000) only [go_sem, h2]
  unfold CallK
  refine reverse_int (gv := .und) (S.app (E ++ [boxI n])).lt hN (by omega) hbN hD fun D' k1 => ?_
  have w1 : IntKind.i64.wrap ((b : Int) - 1) = ((b - 1 : Nat) : Int) := by rw [wrap_i64 (by omega) (by omega)]; omega
  have w2 := isub (a := x) (b := a) (by omega) hx
  have w3 := isub (a := b - 1) (b := x - a) (by omega) (by omega)
  have := pdq_c1 (wb := wb) (wp := wp) (h := 1) (E := E ++ [boxI n]) S hN hm hab hbm hbN hlim hlen (pv := b - 1 - (x - a)) (by omega) (by omega) (k1.len.trans hD) (fun x hx => hp x (k1.perm.mem_iff.1 hx)) (k1.perm.nodup_iff.2 hnd) (hl.seg k1) fun E' D'' q1 q2 => next E' D'' (k1.trans q1) q2
  simp (maxSteps := 2000000) only [go_sem, w1, w2, w3]
  exact this
 ·have := pdq_c1 (wb := wb) (wp := wp) (h := h) (E := E ++ [boxI n]) S hN hm hab hbm hbN hlim hlen hx hxb hD hp hnd hl next
  simp (maxSteps := 2000000) only [go_sem, h2]
  exact this

theorem pdq_all (S : Srt σ o nl g fs cs r p) {N : Nat} (hN : N ≤ 300) : ∀ m, PdqAt σ o nl g fs cs r p N m := by
 have small : ∀ (E : Sto) (a b lim : Nat) (wb wp : Bool) (D : List Int) (R : Post), b - a ≤ 12 → a ≤ b → b ≤ N → lim < 1000 → D.length = N → (∀ x ∈ D, p x) → D.Nodup → LeftOk r D a b →
   (∀ E' D', Seg a b D D' → SortedOn r D' a b → R (.tup []) (stI (σ ++ E') o nl D')) →
   Run T (Ret [] R) (.inLoop X10.b0 :: X10.k0) (mkE 148 [(0, .ref o N 0 N 1), (1, .int .i64 a), (2, .int .i64 b), (3, .int .i64 lim), (4, .clo (.func g) fs cs), (10, .bool wb), (11, .bool wp)]) (stI (σ ++ E) o nl D) := by
  intro E a b lim wb wp D R h12 hab hbN hlim hD hp hnd hl next
  have w1 := isub (a := b) (b := a) (by omega) (by omega)
  have e1 : ((b - a : Nat) : Int) ≤ 12 := by omega
  rw [run_round, run_unfold X10.b0.eq_1]
  simp (maxSteps := 2000000) only [go_sem, w1, e1]
  unfold CallK
  refine insertionSort_int (S.app E) (by omega) hab hbN hD hp fun D' k1 k2 => ?_
  have := next E D' k1 k2
  simp (maxSteps := 2000000) only [go_sem]
  exact this
 intro m
 induction m with
 | zero =>
  intro E a b lim wb wp D R hm hab hbN hlim hD hp hnd hl next
  exact small E a b lim wb wp D R (by omega) hab hbN hlim hD hp hnd hl next
 | succ m ih =>
  intro E a b lim wb wp D R hm hab hbN hlim hD hp hnd hl next
  by_cases h12 : b - a ≤ 12
  ·exact small E a b lim wb wp D R h12 hab hbN hlim hD hp hnd hl next
  ·have w1 := isub (a := b) (b := a) (by omega) (by omega)
   have e1 : ¬ ((b - a : Nat) : Int) ≤ 12 := by omega
   rw [run_round, run_unfold X10.b0.eq_1]
   by_cases h0 : lim = 0
   ·subst h0
    simp (maxSteps := 2000000) only [go_sem, w1, e1, Int.natCast_zero, Int.ofNat_zero]
    unfold CallK
    refine heapSort_int (S.app E) (by omega) (by omega) hbN hD hp fun D' k1 k2 => ?_
    have := next E D' k1 k2
    simp (maxSteps := 2000000) only [go_sem]
    exact this
   ·have h0' : ¬ (lim : Int) = 0 := by omega
    cases wb with
    | true =>
     have := pdq_c2 (wb := true) (wp := wp) (E := E) S (by omega) ih (by omega) hm hbN hlim (len := b - a) (by omega) hD hp hnd hl next
     simp (maxSteps := 2000000) only [go_sem, w1, e1, h0']
     exact this
    | false =>
     have w2 : IntKind.i64.wrap ((lim : Int) - 1) = ((lim - 1 : Nat) : Int) := by rw [wrap_i64 (by omega) (by omega)]; omega
     simp (maxSteps := 2000000) only [go_sem, w1, e1, h0']
     unfold CallK
     refine breakPatterns_int (S.app E).lt (by omega) (by omega) hbN (by omega) hD fun v D' k1 => ?_
     rw [List.append_assoc]
     have := pdq_c2 (wb := false) (wp := wp) (E := E ++ [boxU v]) S (by omega) ih (by omega) hm hbN (lim := lim - 1) (by omega) (len := b - a) (by omega) (k1.len.trans hD) (fun x hx => hp x (k1.perm.mem_iff.1 hx)) (k1.perm.nodup_iff.2 hnd) (hl.seg k1) fun E' D'' q1 q2 => next E' D'' (k1.trans q1) q2
     simp (maxSteps := 2000000) only [go_sem, w2]
     exact this

def lenOf (n : Nat) : Nat := if n = 0 then 0 else if n = 1 then 1 else if n < 4 then 2 else if n < 8 then 3 else if n < 16 then 4 else if n < 32 then 5 else if n < 64 then 6 else if n < 128 then 7 else if n < 256 then 8 else 9
def isInt (v : Int) : AVal → Bool
 | .int .i64 k => decide (k = v)
 | _ => false
theorem lens_all : ((List.range 301).all fun n => fSays T 100 i_X63 [.int .u64 (n : Int)] (isInt (lenOf n))) = true := by kernel_rfl
theorem lens (n : Nat) (h : n ≤ 300) {lv : List Nat} {σ : Sto} {R : Post} : Cw T true i_X63 [.int .u64 (n : Int)] lv σ R ↔ R (.int .i64 (lenOf n)) σ := by
 have := List.all_eq_true.1 lens_all n (by simp; omega)
 refine cw_says T_X63 (by simp (maxSteps := 2000000) only [go_sem]) (fun u h => ?_) this
 unfold isInt at h
 split at h
 ·rw [of_decide_eq_true h]
 ·cases h

theorem sorted_isort (S : Tot r p) {D D' : List Int} (hp : ∀ x ∈ D, p x) (hnd : D.Nodup) (h1 : D'.Perm D) (h2 : SortedOn r D' 0 D'.length) : D' = isort r D := by
 have hp' : ∀ x ∈ D', p x := fun x hx => hp x (h1.mem_iff.1 hx)
 have pw1 : D'.Pairwise fun a b => r b a = false := by
  rw [List.pairwise_iff_getElem]
  intro i j hi hj hij
  have := h2 i j (Nat.zero_le _) hij hj
  rwa [gd_get hi, gd_get hj] at this
 have pw2 : (isort r D).Pairwise fun a b => r b a = false := isort_sorted S.toOrd3 hp
 have up : ∀ {l : List Int}, (∀ x ∈ l, p x) → l.Nodup → (l.Pairwise fun a b => r b a = false) → l.Pairwise fun a b => r a b = true := by
  intro l hl hn hq
  refine (hq.and hn).imp_of_mem fun {a b} ha hb hab => ?_
  rcases S.tot a b (hl a ha) (hl b hb) hab.2 with h | h
  ·exact h
  ·rw [hab.1] at h; cases h
 refine strict_unique (p := p) S.asym hp' (fun x => ?_) (up hp' (h1.nodup_iff.2 hnd) pw1) (up (fun x hx => hp x ((isort_mem r).1 hx)) ((isort_perm r D).nodup_iff.2 hnd) pw2)
 rw [h1.mem_iff, isort_mem]

theorem sortFunc_int (S : Srt σ o nl g fs cs r p) {D : List Int} {R : Post} (hN : D.length ≤ 300) (hp : ∀ x ∈ D, p x) (hnd : D.Nodup)
  (next : ∀ E, R (.tup []) (stI (σ ++ E) o nl (isort r D))) : Cw T false i_X20 [.ref o D.length 0 D.length 1, .clo (.func g) fs cs] [] (stI σ o nl D) R := by
 rw [cw_enter T_X20 (by simp), run_unfold X20.main.eq_1]
 have hu := wrapu (n := D.length) (by omega)
 have hl : lenOf D.length < 1000 := by
  unfold lenOf
  (repeat' split) <;> omega
 have hget := stI_get (nl := nl) (D := D) S.lt
 simp (maxSteps := 2000000) only [go_sem, hget, List.length_map, hu, callK_of (lens D.length hN)]
 unfold CallK
 have hall := pdq_all S hN D.length
 have e : stI σ o nl D = stI (σ ++ []) o nl D := by rw [List.append_nil]
 rw [e]
 refine pdq_call (E := []) hall (a := 0) (by omega) (Nat.zero_le _) (Nat.le_refl _) hl rfl hp hnd (fun h => by omega) fun E' D' k1 k2 => ?_
 rw [← k1.len] at k2
 rw [sorted_isort S.toTot hp hnd k1.perm k2]
 have := next E'
 simp (maxSteps := 2000000) only [go_sem]
 exact this
end
end Go.Abs
