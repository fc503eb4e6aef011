/- Plain laws of a heap in a part of an array. -/
import Derived.Test.YtdiekiajedmaeaaJAbsSort
set_option linter.all false
namespace Go.Abs

section
variable {r : Int → Int → Bool} {p : Int → Prop}

def Zhq (r : Int → Int → Bool) (D : List Int) (f lo hi : Nat) : Prop := ∀ k c, lo ≤ k → (c = 2 * k + 1 ∨ c = 2 * k + 2) → c < hi → r (gd D (f + k)) (gd D (f + c)) = false
structure HeapBut (r : Int → Int → Bool) (D : List Int) (f lo hi root : Nat) : Prop where
 but : ∀ k c, lo ≤ k → k ≠ root → (c = 2 * k + 1 ∨ c = 2 * k + 2) → c < hi → r (gd D (f + k)) (gd D (f + c)) = false
 up : ∀ q c, lo ≤ q → (root = 2 * q + 1 ∨ root = 2 * q + 2) → (c = 2 * root + 1 ∨ c = 2 * root + 2) → c < hi → r (gd D (f + q)) (gd D (f + c)) = false

theorem Zhc {D : List Int} {f lo hi root : Nat} (h : HeapBut r D f lo hi root) (hc : ∀ c, (c = 2 * root + 1 ∨ c = 2 * root + 2) → c < hi → r (gd D (f + root)) (gd D (f + c)) = false) : Zhq r D f lo hi := by
 intro k c hk hkc hch
 by_cases e : k = root
 ·subst e; exact hc c hkc hch
 ·exact h.but k c hk e hkc hch

theorem Znt (hO : Ord3 r p) {D : List Int} {f lo hi root c : Nat} (hD : f + hi ≤ D.length) (hp : ∀ x ∈ D, p x) (h : HeapBut r D f lo hi root) (hlo : lo ≤ root) (hc : c = 2 * root + 1 ∨ c = 2 * root + 2) (hch : c < hi)
  (hbig : ∀ d, (d = 2 * root + 1 ∨ d = 2 * root + 2) → d < hi → r (gd D (f + c)) (gd D (f + d)) = false) (hr : r (gd D (f + root)) (gd D (f + c)) = true) : HeapBut r (sw D (f + root) (f + c)) f lo hi c := by
 have as := hO.asym _ _ (hp _ (Zae (show f + root < D.length by omega))) (hp _ (Zae (show f + c < D.length by omega))) hr
 have hg : ∀ k, k < hi → gd (sw D (f + root) (f + c)) (f + k) = if k = c then gd D (f + root) else if k = root then gd D (f + c) else gd D (f + k) := by
  intro k hk
  rw [ZcC (by omega) (by omega)]
  by_cases e : k = c
  ·subst e; simp
  ·rw [if_neg (by omega), if_neg e]
   by_cases e2 : k = root
   ·subst e2; simp
   ·rw [if_neg (by omega), if_neg e2]
 refine ⟨fun k d hk hne hkd hd => ?_, fun q d hq hqc hd hdh => ?_⟩
 ·rw [hg k (by omega), hg d hd, if_neg hne]
  by_cases e : k = root
  ·subst e
   rw [if_pos rfl]
   by_cases e2 : d = c
   ·rw [if_pos e2]; exact as
   ·rw [if_neg e2, if_neg (by omega)]; exact hbig d hkd hd
  ·rw [if_neg e, if_neg (by omega)]
   by_cases e2 : d = root
   ·rw [if_pos e2]; exact h.up k c hk (by omega) hc hch
   ·rw [if_neg e2]; exact h.but k d hk e hkd hd
 ·obtain rfl : q = root := by omega
  rw [hg q (by omega), hg d hdh, if_neg (by omega), if_pos rfl, if_neg (by omega), if_neg (by omega)]
  exact h.but c d (by omega) (by omega) hd hdh

theorem Zpl (hO : Ord3 r p) {D : List Int} {f hi : Nat} (hD : f + hi ≤ D.length) (hp : ∀ x ∈ D, p x) (h : Zhq r D f 0 hi) : ∀ (n k : Nat), k < n → k < hi → r (gd D f) (gd D (f + k)) = false := by
 intro n
 induction n with
 | zero => intro k hk; omega
 | succ n ih =>
  intro k hk hkh
  by_cases e : k = 0
  ·subst e
   cases hr : r (gd D f) (gd D (f + 0)) with
   | false => rfl
   | true => have := hO.asym _ _ (hp _ (Zae (show f < D.length by omega))) (hp _ (Zae (show f + 0 < D.length by omega))) hr; simp only [Nat.add_zero] at hr this; rw [hr] at this; cases this
  ·have h1 := ih ((k - 1) / 2) (by omega) (by omega)
   have h2 := h ((k - 1) / 2) k (Nat.zero_le _) (by omega) hkh
   exact hO.trans _ _ _ (hp _ (Zae (by omega))) (hp _ (Zae (by omega))) (hp _ (Zae (by omega))) h1 h2

structure Half (r : Int → Int → Bool) (D : List Int) (f i hi : Nat) : Prop where
 srt : Zw r D (f + i) (f + hi)
 low : ∀ u v, u < i → i ≤ v → v < hi → r (gd D (f + v)) (gd D (f + u)) = false
theorem Znu (hO : Ord3 r p) {D : List Int} {f i hi : Nat} (hi' : i < hi) (hD : f + hi ≤ D.length) (hp : ∀ x ∈ D, p x) (hH : Zhq r D f 0 (i + 1)) (h : Half r D f (i + 1) hi) : Half r (sw D f (f + i)) f i hi ∧ HeapBut r (sw D f (f + i)) f 0 i 0 := by
 have hg : ∀ k, k < hi → gd (sw D f (f + i)) (f + k) = if k = i then gd D f else if k = 0 then gd D (f + i) else gd D (f + k) := by
  intro k hk
  rw [ZcC (by omega) (by omega)]
  by_cases e : k = i
  ·subst e; simp
  ·rw [if_neg (by omega), if_neg e]
   by_cases e2 : k = 0
   ·subst e2; simp
   ·rw [if_neg (by omega), if_neg e2]
 have hmax := Zpl hO (by omega) hp hH (i + 1)
 refine ⟨⟨fun u v hu huv hv => ?_, fun u v hu hv hv' => ?_⟩, ⟨fun k c hk hne hkc hc => ?_, fun q c hq hqc _ _ => by omega⟩⟩
 ·obtain ⟨u, rfl⟩ : ∃ u', u = f + u' := ⟨u - f, by omega⟩
  obtain ⟨v, rfl⟩ : ∃ v', v = f + v' := ⟨v - f, by omega⟩
  rw [hg u (by omega), hg v (by omega), if_neg (show ¬ v = i by omega), if_neg (show ¬ v = 0 by omega)]
  by_cases e : u = i
  ·rw [if_pos e]
   have := h.low 0 v (by omega) (by omega) (by omega)
   rwa [Nat.add_zero] at this
  ·rw [if_neg e, if_neg (by omega)]
   exact h.srt (f + u) (f + v) (by omega) (by omega) (by omega)
 ·rw [hg u (by omega), hg v hv', if_neg (show ¬ u = i by omega)]
  by_cases e : v = i
  ·rw [if_pos e]
   split
   ·exact hmax i (by omega) (by omega)
   ·exact hmax u (by omega) (by omega)
  ·rw [if_neg e, if_neg (by omega)]
   split
   ·exact h.low i v (by omega) (by omega) hv'
   ·exact h.low u v (by omega) (by omega) hv'
 ·rw [hg k (by omega), hg c (by omega), if_neg (by omega), if_neg hne, if_neg (by omega), if_neg (by omega)]
  exact hH k c hk hkc (by omega)

theorem Zpm {D D' : List Int} {f i hi : Nat} (h : Half r D f i hi) (hs : Seg f (f + i) D D') (hi' : i ≤ hi) : Half r D' f i hi := by
 refine ⟨fun u v hu huv hv => ?_, fun u v hu hv hv' => ?_⟩
 ·rw [hs.out u (by omega), hs.out v (by omega)]; exact h.srt u v hu huv hv
 ·rw [hs.out (f + v) (by omega)]
  exact hs.seg (fun x => r (gd D (f + v)) x = false) (fun k hk hk' => by
   have := h.low (k - f) v (by omega) hv hv'
   rwa [show f + (k - f) = k by omega] at this) (f + u) (by omega) (by omega)
end
end Go.Abs
