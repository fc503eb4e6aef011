/- Parts of the proof: AbsSort, AbsPdq. -/

set_option linter.all false
/- Insertion sort, as Go's library does it for short lists. -/
namespace Go.Abs

section
variable {α : Type} (r : α → α → Bool)

def Zj6 (x : α) : List α → List α
 | [] => [x]
 | y :: ys => if r x y = true then y :: Zj6 x ys else x :: y :: ys
def ZfG (acc : List α) : List α → List α
 | [] => acc
 | x :: xs => ZfG (Zj6 r x acc) xs
def Zfg (D : List α) : List α := (ZfG r [] D).reverse

theorem ZdU (x : α) : ∀ (l : List α), (Zj6 r x l).Perm (x :: l)
 | [] => List.Perm.refl _
 | y :: ys => by
  unfold Zj6
  split
  ·exact ((ZdU x ys).cons y).trans (List.Perm.swap x y ys)
  ·exact List.Perm.refl _
theorem ZfV : ∀ (D acc : List α), (ZfG r acc D).Perm (D ++ acc)
 | [], acc => List.Perm.refl _
 | x :: D, acc => by
  rw [ZfG]
  refine (ZfV D (Zj6 r x acc)).trans ?_
  refine ((ZdU r x acc).append_left D).trans ?_
  exact List.perm_middle
theorem Zdm (D : List α) : (Zfg r D).Perm D := by
 have := ZfV r D []
 rw [List.append_nil] at this
 exact (List.reverse_perm _).trans this
theorem ZfH {D : List α} {x : α} : x ∈ Zfg r D ↔ x ∈ D := (Zdm r D).mem_iff
theorem Zbt {D : List α} : (Zfg r D).length = D.length := (Zdm r D).length_eq
structure Ord3 (p : α → Prop) : Prop where
 asym : ∀ a b, p a → p b → r a b = true → r b a = false
 trans : ∀ a b c, p a → p b → p c → r a b = false → r b c = false → r a c = false

variable {r}
theorem ZfW {p : α → Prop} (h : Ord3 r p) {x : α} (hx : p x) : ∀ (l : List α), (∀ y ∈ l, p y) → l.Pairwise (fun a b => r a b = false) → (Zj6 r x l).Pairwise (fun a b => r a b = false)
 | [], _, _ => by simp [Zj6]
 | y :: ys, hp, hs => by
  rw [List.pairwise_cons] at hs
  unfold Zj6
  split
  ·rename_i hr
   rw [List.pairwise_cons]
   refine ⟨fun z hz => ?_, ZfW h hx ys (fun z hz => hp z (by simp [hz])) hs.2⟩
   rcases List.mem_cons.1 ((ZdU r x ys).mem_iff.1 hz) with rfl | hz
   ·exact h.asym _ _ hx (hp y (by simp)) hr
   ·exact hs.1 z hz
  ·rename_i hr
   have hr : r x y = false := by simpa using hr
   rw [List.pairwise_cons, List.pairwise_cons]
   refine ⟨fun z hz => ?_, hs⟩
   rcases List.mem_cons.1 hz with rfl | hz
   ·exact hr
   ·exact h.trans x y z hx (hp y (by simp)) (hp z (by simp [hz])) hr (hs.1 z hz)
theorem Zee {p : α → Prop} (h : Ord3 r p) : ∀ (D acc : List α), (∀ y ∈ D, p y) → (∀ y ∈ acc, p y) → acc.Pairwise (fun a b => r a b = false) → (ZfG r acc D).Pairwise (fun a b => r a b = false)
 | [], acc, _, _, hs => hs
 | x :: D, acc, hD, ha, hs => by
  rw [ZfG]
  have hx := hD x (by simp)
  refine Zee h D _ (fun y hy => hD y (by simp [hy])) (fun y hy => ?_) (ZfW h hx acc ha hs)
  rcases List.mem_cons.1 ((ZdU r x acc).mem_iff.1 hy) with rfl | hy
  ·exact hx
  ·exact ha y hy
theorem Zfh {p : α → Prop} (h : Ord3 r p) {D : List α} (hD : ∀ y ∈ D, p y) : (Zfg r D).Pairwise (fun a b => r b a = false) := by
 unfold Zfg
 rw [List.pairwise_reverse]
 exact Zee h D [] hD (by simp) List.Pairwise.nil

theorem Zef {p : α → Prop} (ha : ∀ a b, p a → p b → r a b = true → r b a = false) : ∀ {l l' : List α}, (∀ x ∈ l, p x) → (∀ x, x ∈ l ↔ x ∈ l') → l.Pairwise (fun a b => r a b = true) → l'.Pairwise (fun a b => r a b = true) → l = l'
 | [], l', _, hm, _, _ => by
  cases l' with
  | nil => rfl
  | cons y ys => exact absurd ((hm y).2 (by simp)) (by simp)
 | x :: xs, [], _, hm, _, _ => absurd ((hm x).1 (by simp)) (by simp)
 | x :: xs, y :: ys, hp, hm, h1, h2 => by
  rw [List.pairwise_cons] at h1 h2
  have hx := hp x (by simp)
  have irr : ∀ z, p z → r z z = true → False := fun z hz h => by have := ha z z hz hz h; rw [h] at this; cases this
  have hy : p y := hp y ((hm y).2 (by simp))
  have hxy : x = y := by
   rcases List.mem_cons.1 ((hm x).1 (by simp)) with e | e
   ·exact e
   ·rcases List.mem_cons.1 ((hm y).2 (by simp)) with e' | e'
    ·exact e'.symm
    ·have := ha x y hx hy (h1.1 y e'); rw [h2.1 x e] at this; cases this
  subst hxy
  have : xs = ys := Zef ha (fun z hz => hp z (by simp [hz])) (fun z => by
   constructor
   ·intro hz
    rcases List.mem_cons.1 ((hm z).1 (by simp [hz])) with e | e
    ·subst e; exact (irr z hx (h1.1 z hz)).elim
    ·exact e
   ·intro hz
    rcases List.mem_cons.1 ((hm z).2 (by simp [hz])) with e | e
    ·subst e; exact (irr z hx (h2.1 z hz)).elim
    ·exact e) h1.2 h2.2
  rw [this]
end
end Go.Abs
/- Plain laws of sorting a part of an array by swaps. -/
namespace Go.Abs

abbrev gd (D : List Int) (i : Nat) : Int := D.getD i 0
def sw (D : List Int) (i j : Nat) : List Int := (D.set i (gd D j)).set j (gd D i)
theorem Zy {D : List Int} {i : Nat} (h : i < D.length) : gd D i = D[i] := by
 unfold gd; rw [List.getD_eq_getElem?_getD, List.getElem?_eq_getElem h]; rfl
theorem Zae {D : List Int} {i : Nat} (h : i < D.length) : gd D i ∈ D := by rw [Zy h]; exact List.getElem_mem h
theorem Zpk {D : List Int} {k i : Nat} {a : Int} (h : k < D.length) : gd (D.set k a) i = if i = k then a else gd D i := by
 unfold gd
 rw [List.getD_eq_getElem?_getD, List.getElem?_set, List.getD_eq_getElem?_getD]
 by_cases e : k = i
 ·subst e; simp [h]
 ·rw [if_neg e, if_neg (Ne.symm e)]
theorem ZbS (D : List Int) (i j : Nat) : (sw D i j).length = D.length := by simp [sw]
theorem ZcC {D : List Int} {i j k : Nat} (hi : i < D.length) (hj : j < D.length) : gd (sw D i j) k = if k = j then gd D i else if k = i then gd D j else gd D k := by
 unfold sw
 rw [Zpk (by simpa using hj), Zpk hi]
theorem ZcD {D : List Int} {i j : Nat} (hi : i < D.length) (hj : j < D.length) : (D.set i D[j]).set j D[i] = sw D i j := by
 unfold sw; rw [Zy hi, Zy hj]
theorem ZbB {D : List Int} {i j : Nat} (hi : i < D.length) (hj : j < D.length) : (sw D i j).Perm D := by
 rw [← ZcD hi hj]; exact List.set_set_perm hi hj

structure Seg (a b : Nat) (D D' : List Int) : Prop where
 len : D'.length = D.length
 perm : D'.Perm D
 out : ∀ i, (i < a ∨ b ≤ i) → gd D' i = gd D i
 seg : ∀ q : Int → Prop, (∀ i, a ≤ i → i < b → q (gd D i)) → ∀ i, a ≤ i → i < b → q (gd D' i)
theorem Seg.refl (a b : Nat) (D : List Int) : Seg a b D D := ⟨rfl, List.Perm.refl _, fun _ _ => rfl, fun _ h => h⟩
theorem Seg.trans {a b : Nat} {D D' D'' : List Int} (h : Seg a b D D') (k : Seg a b D' D'') : Seg a b D D'' :=
 ⟨k.len.trans h.len, k.perm.trans h.perm, fun i hi => (k.out i hi).trans (h.out i hi), fun q hq => k.seg q (h.seg q hq)⟩
theorem Seg.mono {a b a' b' : Nat} {D D' : List Int} (h : Seg a b D D') (h1 : a' ≤ a) (h2 : b ≤ b') : Seg a' b' D D' :=
 ⟨h.len, h.perm, fun i hi => h.out i (by omega), fun q hq i hi hi' => by
  by_cases e : a ≤ i ∧ i < b
  ·exact h.seg q (fun i hi hi' => hq i (by omega) (by omega)) i e.1 e.2
  ·rw [h.out i (by omega)]; exact hq i hi hi'⟩
theorem Seg.swap {a b i j : Nat} {D : List Int} (h1 : a ≤ i) (h2 : i < b) (h3 : a ≤ j) (h4 : j < b) (hb : b ≤ D.length) : Seg a b D (sw D i j) :=
 ⟨ZbS .., ZbB (by omega) (by omega), fun k hk => by
  rw [ZcC (by omega) (by omega), if_neg (by omega), if_neg (by omega)],
  fun q hq k hk hk' => by
  rw [ZcC (by omega) (by omega)]
  split
  ·exact hq i h1 h2
  ·split
   ·exact hq j h3 h4
   ·exact hq k hk hk'⟩

section
variable {r : Int → Int → Bool} {p : Int → Prop}

structure Tot (r : Int → Int → Bool) (p : Int → Prop) : Prop extends Ord3 r p where
 tot : ∀ a b, p a → p b → a ≠ b → r a b = true ∨ r b a = true

def Zw (r : Int → Int → Bool) (D : List Int) (a b : Nat) : Prop := ∀ i j, a ≤ i → i < j → j < b → r (gd D j) (gd D i) = false

def Ins (r : Int → Int → Bool) (D : List Int) (a i j : Nat) : Prop := ∀ u v, a ≤ u → u < v → v ≤ i → v ≠ j → r (gd D v) (gd D u) = false
theorem Zns {D : List Int} {a i : Nat} (h : Zw r D a i) : Ins r D a i i := fun u v hu huv hv hne => h u v hu huv (by omega)
theorem Zj5 (hO : Ord3 r p) {D : List Int} {a i j : Nat} (hi : i < D.length) (ha : a ≤ j) (hj : j + 1 ≤ i) (h : Ins r D a i (j + 1)) (hp : ∀ x ∈ D, p x) (hr : r (gd D (j + 1)) (gd D j) = true) : Ins r (sw D (j + 1) j) a i j := by
 intro u v hu huv hv hne
 rw [ZcC (by omega) (by omega), ZcC (by omega) (by omega), if_neg hne]
 have as := hO.asym _ _ (hp _ (Zae (show j + 1 < D.length by omega))) (hp _ (Zae (show j < D.length by omega))) hr
 by_cases e1 : v = j + 1
 ·subst e1
  rw [if_pos rfl]
  by_cases e2 : u = j
  ·subst e2; rw [if_pos rfl]; exact as
  ·rw [if_neg e2, if_neg (by omega)]; exact h u j hu (by omega) (by omega) (by omega)
 ·rw [if_neg e1]
  by_cases e2 : u = j
  ·subst e2; rw [if_pos rfl]; exact h (u + 1) v (by omega) (by omega) hv e1
  ·rw [if_neg e2]
   by_cases e3 : u = j + 1
   ·subst e3; rw [if_pos rfl]; exact h j v ha (by omega) hv e1
   ·rw [if_neg e3]; exact h u v hu huv hv e1
theorem Zff (hO : Ord3 r p) {D : List Int} {a i j : Nat} (hi : i < D.length) (hj : j ≤ i) (h : Ins r D a i j) (hp : ∀ x ∈ D, p x) (hr : j ≤ a ∨ r (gd D j) (gd D (j - 1)) = false) : Zw r D a (i + 1) := by
 intro u v hu huv hv
 by_cases e : v = j
 ·subst e
  rcases hr with hr | hr
  ·omega
  ·by_cases e2 : u = v - 1
   ·rw [e2]; exact hr
   ·exact hO.trans _ _ _ (hp _ (Zae (by omega))) (hp _ (Zae (by omega))) (hp _ (Zae (by omega))) hr (h u (v - 1) hu (by omega) (by omega) (by omega))
 ·exact h u v hu huv (by omega) e
end
end Go.Abs
