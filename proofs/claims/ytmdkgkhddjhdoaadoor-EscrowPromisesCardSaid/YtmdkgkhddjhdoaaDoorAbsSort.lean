/- Insertion sort, as Go's library does it for short lists. -/
set_option linter.all false
namespace Go.Abs

section
variable {α : Type} (r : α → α → Bool)

/-- x into a list that has its last one first -/
def insR (x : α) : List α → List α
  | [] => [x]
  | y :: ys => if r x y = true then y :: insR x ys else x :: y :: ys
def isortR (acc : List α) : List α → List α
  | [] => acc
  | x :: xs => isortR (insR r x acc) xs
/-- the sorted list -/
def isort (D : List α) : List α := (isortR r [] D).reverse

theorem insR_perm (x : α) : ∀ (l : List α), (insR r x l).Perm (x :: l)
  | [] => List.Perm.refl _
  | y :: ys => by
    unfold insR
    split
    · exact ((insR_perm x ys).cons y).trans (List.Perm.swap x y ys)
    · exact List.Perm.refl _
theorem isortR_perm : ∀ (D acc : List α), (isortR r acc D).Perm (D ++ acc)
  | [], acc => List.Perm.refl _
  | x :: D, acc => by
    rw [isortR]
    refine (isortR_perm D (insR r x acc)).trans ?_
    refine ((insR_perm r x acc).append_left D).trans ?_
    exact List.perm_middle
theorem isort_perm (D : List α) : (isort r D).Perm D := by
  have := isortR_perm r D []
  rw [List.append_nil] at this
  exact (List.reverse_perm _).trans this
theorem isort_mem {D : List α} {x : α} : x ∈ isort r D ↔ x ∈ D := (isort_perm r D).mem_iff
theorem isort_len {D : List α} : (isort r D).length = D.length := (isort_perm r D).length_eq
theorem insR_len (x : α) (l : List α) : (insR r x l).length = l.length + 1 := (insR_perm r x l).length_eq

/-- what an order fulfils on the elements at hand -/
structure Ord3 (p : α → Prop) : Prop where
  asym : ∀ a b, p a → p b → r a b = true → r b a = false
  trans : ∀ a b c, p a → p b → p c → r a b = false → r b c = false → r a c = false

variable {r}
theorem insR_sorted {p : α → Prop} (h : Ord3 r p) {x : α} (hx : p x) : ∀ (l : List α), (∀ y ∈ l, p y) → l.Pairwise (fun a b => r a b = false) → (insR r x l).Pairwise (fun a b => r a b = false)
  | [], _, _ => by simp [insR]
  | y :: ys, hp, hs => by
    rw [List.pairwise_cons] at hs
    unfold insR
    split
    · rename_i hr
      rw [List.pairwise_cons]
      refine ⟨fun z hz => ?_, insR_sorted h hx ys (fun z hz => hp z (by simp [hz])) hs.2⟩
      rcases List.mem_cons.1 ((insR_perm r x ys).mem_iff.1 hz) with rfl | hz
      · exact h.asym _ _ hx (hp y (by simp)) hr
      · exact hs.1 z hz
    · rename_i hr
      have hr : r x y = false := by simpa using hr
      rw [List.pairwise_cons, List.pairwise_cons]
      refine ⟨fun z hz => ?_, hs⟩
      rcases List.mem_cons.1 hz with rfl | hz
      · exact hr
      · exact h.trans x y z hx (hp y (by simp)) (hp z (by simp [hz])) hr (hs.1 z hz)
theorem isortR_sorted {p : α → Prop} (h : Ord3 r p) : ∀ (D acc : List α), (∀ y ∈ D, p y) → (∀ y ∈ acc, p y) → acc.Pairwise (fun a b => r a b = false) → (isortR r acc D).Pairwise (fun a b => r a b = false)
  | [], acc, _, _, hs => hs
  | x :: D, acc, hD, ha, hs => by
    rw [isortR]
    have hx := hD x (by simp)
    refine isortR_sorted h D _ (fun y hy => hD y (by simp [hy])) (fun y hy => ?_) (insR_sorted h hx acc ha hs)
    rcases List.mem_cons.1 ((insR_perm r x acc).mem_iff.1 hy) with rfl | hy
    · exact hx
    · exact ha y hy
theorem isort_sorted {p : α → Prop} (h : Ord3 r p) {D : List α} (hD : ∀ y ∈ D, p y) : (isort r D).Pairwise (fun a b => r b a = false) := by
  unfold isort
  rw [List.pairwise_reverse]
  exact isortR_sorted h D [] hD (by simp) List.Pairwise.nil

/-- two lists with the same elements, both strictly in order, are equal -/
theorem strict_unique {p : α → Prop} (ha : ∀ a b, p a → p b → r a b = true → r b a = false) : ∀ {l l' : List α}, (∀ x ∈ l, p x) → (∀ x, x ∈ l ↔ x ∈ l') → l.Pairwise (fun a b => r a b = true) → l'.Pairwise (fun a b => r a b = true) → l = l'
  | [], l', _, hm, _, _ => by
    cases l' with
    | nil => rfl
    | cons y ys => exact absurd ((hm y).2 (by simp)) (by simp)
  | x :: xs, [], _, hm, _, _ => absurd ((hm x).1 (by simp)) (by simp)
  | x :: xs, y :: ys, hp, hm, h1, h2 => by
    rw [List.pairwise_cons] at h1 h2
    have hx := hp x (by simp)
    have irr : ∀ z, p z → r z z = true → False := fun z hz h => by have := ha z z hz hz h; rw [h] at this; cases this
    have hy : p y := hp y ((hm y).2 (by simp))
    have hxy : x = y := by
      rcases List.mem_cons.1 ((hm x).1 (by simp)) with e | e
      · exact e
      · rcases List.mem_cons.1 ((hm y).2 (by simp)) with e' | e'
        · exact e'.symm
        · have := ha x y hx hy (h1.1 y e'); rw [h2.1 x e] at this; cases this
    subst hxy
    have : xs = ys := strict_unique ha (fun z hz => hp z (by simp [hz])) (fun z => by
      constructor
      · intro hz
        rcases List.mem_cons.1 ((hm z).1 (by simp [hz])) with e | e
        · subst e; exact (irr z hx (h1.1 z hz)).elim
        · exact e
      · intro hz
        rcases List.mem_cons.1 ((hm z).2 (by simp [hz])) with e | e
        · subst e; exact (irr z hx (h2.1 z hz)).elim
        · exact e) h1.2 h2.2
    rw [this]
end
end Go.Abs
