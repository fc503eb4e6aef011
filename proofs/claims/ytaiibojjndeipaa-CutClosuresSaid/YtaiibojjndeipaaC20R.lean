/- Plain laws of chapter 20: closed cuts, their joins and meets. -/
import Derived.Test.YtaiibojjndeipaaC20Q
set_option linter.all false
set_option linter.unusedSimpArgs false
set_option linter.unusedVariables false
namespace Go.Abs
open Go

theorem getD_minL {a b : List Int} (h : a.length = b.length) (t : Nat) : (minL a b).getD t 0 = if b.getD t 0 < a.getD t 0 then b.getD t 0 else a.getD t 0 := by
  simp only [minL, List.getD_eq_getElem?_getD, List.getElem?_zipWith]
  by_cases ht : t < a.length
  · simp [List.getElem?_eq_getElem ht, List.getElem?_eq_getElem (h ▸ ht : t < b.length)]
  · simp [List.getElem?_eq_none (show a.length ≤ t by omega), List.getElem?_eq_none (show b.length ≤ t by omega)]

theorem valid_iff {a : List Int} : valid a = true ↔ a.length = 6 ∧ ∀ t, 0 ≤ a.getD t 0 ∧ a.getD t 0 ≤ 999 := by
  simp only [valid, Bool.and_eq_true, decide_eq_true_eq, List.all_eq_true, okSeq]
  constructor
  · rintro ⟨h1, h2⟩
    refine ⟨h1, fun t => ?_⟩
    by_cases ht : t < a.length
    · exact h2 _ (getD_mem ht)
    · rw [List.getD_eq_getElem?_getD, List.getElem?_eq_none (by omega)]; simp
  · rintro ⟨h1, h2⟩
    refine ⟨h1, fun x hx => ?_⟩
    obtain ⟨i, hi, rfl⟩ := List.getElem_of_mem hx
    have := h2 i
    rwa [List.getD_eq_getElem?_getD, List.getElem?_eq_getElem hi] at this

theorem ext6 {a b : List Int} (ha : a.length = 6) (hb : b.length = 6) (h : ∀ t, a.getD t 0 = b.getD t 0) : a = b := by
  refine List.ext_getElem (by omega) fun i h1 h2 => ?_
  have := h i
  rwa [List.getD_eq_getElem?_getD, List.getD_eq_getElem?_getD, List.getElem?_eq_getElem h1, List.getElem?_eq_getElem h2] at this

theorem len_maxL {a b : List Int} (ha : a.length = 6) (hb : b.length = 6) : (maxL a b).length = 6 := by simp [maxL, ha, hb]
theorem len_minL {a b : List Int} (ha : a.length = 6) (hb : b.length = 6) : (minL a b).length = 6 := by simp [minL, ha, hb]

theorem valid_maxL {a b : List Int} (ha : valid a = true) (hb : valid b = true) : valid (maxL a b) = true := by
  rw [valid_iff] at *
  refine ⟨len_maxL ha.1 hb.1, fun t => ?_⟩
  rw [getD_maxL (by rw [ha.1, hb.1])]
  have := ha.2 t; have := hb.2 t
  split <;> omega
theorem valid_minL {a b : List Int} (ha : valid a = true) (hb : valid b = true) : valid (minL a b) = true := by
  rw [valid_iff] at *
  refine ⟨len_minL ha.1 hb.1, fun t => ?_⟩
  rw [getD_minL (by rw [ha.1, hb.1])]
  have := ha.2 t; have := hb.2 t
  split <;> omega

theorem leq_iff {a b : List Int} (ha : valid a = true) (hb : valid b = true) : leq a b = true ↔ le a b := by
  constructor
  · intro h
    obtain ⟨a0, a1, a2, a3, a4, a5, rfl⟩ := six (valid_len ha)
    obtain ⟨b0, b1, b2, b3, b4, b5, rfl⟩ := six (valid_len hb)
    simp [leq, ha, hb] at h
    intro t
    match t with
    | 0 => exact h.1
    | 1 => exact h.2.1
    | 2 => exact h.2.2.1
    | 3 => exact h.2.2.2.1
    | 4 => exact h.2.2.2.2.1
    | 5 => exact h.2.2.2.2.2
    | t + 6 => exact Int.le_refl 0
  · exact leq_of_le ha hb
theorem leq_valid {a b : List Int} (h : leq a b = true) : valid a = true ∧ valid b = true := by
  simp only [leq, Bool.and_eq_true] at h; exact h.1

theorem le_maxL1 {a b : List Int} (h : a.length = b.length) : le a (maxL a b) := fun t => by rw [getD_maxL h]; split <;> omega
theorem le_maxL2 {a b : List Int} (h : a.length = b.length) : le b (maxL a b) := fun t => by rw [getD_maxL h]; split <;> omega
theorem minL_le1 {a b : List Int} (h : a.length = b.length) : le (minL a b) a := fun t => by rw [getD_minL h]; split <;> omega
theorem minL_le2 {a b : List Int} (h : a.length = b.length) : le (minL a b) b := fun t => by rw [getD_minL h]; split <;> omega

theorem lead_full {p : Nat → Bool} : ∀ d q, lead p q d = q + d ↔ ∀ j, q < j → j ≤ q + d → p j = true
  | 0, q => ⟨fun _ j h1 h2 => by omega, fun _ => rfl⟩
  | d + 1, q => by
    rw [lead]
    split
    · rename_i h
      rw [show q + (d + 1) = q + 1 + d by omega, lead_full d (q + 1)]
      constructor
      · intro g j h1 h2
        by_cases e : j = q + 1
        · rw [e]; exact h
        · exact g j (by omega) (by omega)
      · intro g j h1 h2
        exact g j (by omega) (by omega)
    · rename_i h
      constructor
      · intro e; omega
      · intro g; exact absurd (g (q + 1) (by omega) (by omega)) h

/-- closed, said by stations and numbers -/
theorem full_all {l : List Com} {c : List Int} (hv : valid c = true) {s : Nat} : full l c s = true ↔ ∀ j : Nat, 0 < j → (j : Int) ≤ c.getD s 0 → okq l c s j = true := by
  have h0 := ((valid_iff.1 hv).2 s).1
  have h1 := lead_full (p := okq l c s) (c.getD s 0).toNat 0
  have h2 : fit l c s ≤ (c.getD s 0).toNat := fit_le
  rw [Nat.zero_add] at h1
  have h3 : full l c s = true ↔ fit l c s = (c.getD s 0).toNat := by
    unfold full
    simp only [Bool.not_eq_true', decide_eq_false_iff_not]
    omega
  rw [h3]
  unfold fit
  rw [h1]
  exact ⟨fun g j a b => g j a (by omega), fun g j a b => g j a (by omega)⟩
theorem closed_all {l : List Com} {c : List Int} (hv : valid c = true) : closed l c = true ↔ ∀ s : Nat, s < 6 → ∀ j : Nat, 0 < j → (j : Int) ≤ c.getD s 0 → okq l c s j = true := by
  unfold closed
  rw [hv, Bool.true_and, List.all_eq_true]
  exact ⟨fun g s hs => (full_all hv).1 (g s (by simpa using hs)), fun g s hs => (full_all hv).2 (g s (by simpa using hs))⟩

theorem okq_mono {l : List Com} {c d : List Int} (hc : valid c = true) (hd : valid d = true) (h : le c d) {s q : Nat} (hk : okq l c s q = true) : okq l d s q = true := by
  unfold okq at hk ⊢
  split at hk
  · simp only [Bool.and_eq_true] at hk ⊢
    refine ⟨hk.1, ?_⟩
    have hx := (leq_valid hk.2).1
    exact leq_of_le hx hd fun t => Int.le_trans ((leq_iff hx hc).1 hk.2 t) (h t)
  · simp at hk
theorem okq_min {l : List Com} {a b : List Int} (ha : valid a = true) (hb : valid b = true) {s q : Nat} (h1 : okq l a s q = true) (h2 : okq l b s q = true) : okq l (minL a b) s q = true := by
  have hl : a.length = b.length := by rw [valid_len ha, valid_len hb]
  unfold okq at *
  split at h1
  · rename_i x e
    rw [e] at h2
    simp only [Bool.and_eq_true] at h1 h2 ⊢
    refine ⟨h1.1, ?_⟩
    have hx := (leq_valid h1.2).1
    refine leq_of_le hx (valid_minL ha hb) fun t => ?_
    have g1 := (leq_iff hx ha).1 h1.2 t
    have g2 := (leq_iff hx hb).1 h2.2 t
    rw [getD_minL hl]
    split <;> omega
  · simp at h1

theorem closed_max {l : List Com} {a b : List Int} (ha : closed l a = true) (hb : closed l b = true) : closed l (maxL a b) = true := by
  have va : valid a = true := by unfold closed at ha; simp only [Bool.and_eq_true] at ha; exact ha.1
  have vb : valid b = true := by unfold closed at hb; simp only [Bool.and_eq_true] at hb; exact hb.1
  have hl : a.length = b.length := by rw [valid_len va, valid_len vb]
  rw [closed_all va] at ha
  rw [closed_all vb] at hb
  rw [closed_all (valid_maxL va vb)]
  intro s hs j h1 h2
  rw [getD_maxL hl] at h2
  split at h2
  · exact okq_mono vb (valid_maxL va vb) (le_maxL2 hl) (hb s hs j h1 h2)
  · exact okq_mono va (valid_maxL va vb) (le_maxL1 hl) (ha s hs j h1 h2)
theorem closed_min {l : List Com} {a b : List Int} (ha : closed l a = true) (hb : closed l b = true) : closed l (minL a b) = true := by
  have va : valid a = true := by unfold closed at ha; simp only [Bool.and_eq_true] at ha; exact ha.1
  have vb : valid b = true := by unfold closed at hb; simp only [Bool.and_eq_true] at hb; exact hb.1
  have hl : a.length = b.length := by rw [valid_len va, valid_len vb]
  rw [closed_all va] at ha
  rw [closed_all vb] at hb
  rw [closed_all (valid_minL va vb)]
  intro s hs j h1 h2
  rw [getD_minL hl] at h2
  split at h2
  · exact okq_min va vb (ha s hs j h1 (by omega)) (hb s hs j h1 (by omega))
  · exact okq_min va vb (ha s hs j h1 (by omega)) (hb s hs j h1 (by omega))

theorem gre_closed {l : List Com} : ∀ n (c : List Int), valid c = true → total c < n → closed l (gre l n c) = true ∧ valid (gre l n c) = true
  | 0, _, _, h => by omega
  | n + 1, c, hv, hn => by
    rw [gre]
    split
    · rename_i h; exact ⟨h, hv⟩
    · rename_i h
      have := pass_less hv (by simpa using h)
      exact gre_closed n _ (pass_valid 6 0 c rfl hv) (by omega)
theorem cutOfL_closed (l : List Com) (b : List Nat) : closed l (cutOfL l b) = true ∧ valid (cutOfL l b) = true := by
  unfold cutOfL
  split
  · exact gre_closed _ _ valid_all (total_le valid_all)
  · exact gre_closed _ _ (valid_limit b) (total_le (valid_limit b))

theorem firstS_none {l : List Com} {c : List Int} (h : ∀ s, s < 6 → full l c s = true) : ∀ d s, s + d = 6 → firstS l c s d = none
  | 0, s, _ => rfl
  | d + 1, s, hd => by rw [firstS, if_pos (h s (by omega)), firstS_none h d (s + 1) (by omega)]
theorem closedP_of {l : List Com} {c : List Int} (h : closed l c = true) : closedP l c = true := by
  unfold closed at h
  simp only [Bool.and_eq_true, List.all_eq_true] at h
  simp only [closedP, h.1, Bool.true_and, decide_eq_true_eq]
  rw [show (6000 : Nat) = 5999 + 1 from rfl, reachF, firstS_none (fun s hs => h.2 s (by simpa using hs)) 6 0 rfl]

/-- the laws of a lattice -/
structure Latt (a b c : List Int) : Prop where
  comm1 : maxL b a = maxL a b
  comm2 : minL b a = minL a b
  ass1 : maxL (maxL a b) c = maxL a (maxL b c)
  ass2 : minL (minL a b) c = minL a (minL b c)
  id1 : maxL a a = a
  id2 : minL a a = a
  abs1 : maxL a (minL a b) = a
  abs2 : minL a (maxL a b) = a
  leq1 : leq a b = decide (maxL a b = b)
  leq2 : leq a b = decide (minL a b = a)
  mm : leq (minL a b) (maxL a b) = true

theorem latt {a b c : List Int} (ha : valid a = true) (hb : valid b = true) (hc : valid c = true) : Latt a b c := by
  have la := valid_len ha
  have lb := valid_len hb
  have lc := valid_len hc
  have g1 : ∀ {x y : List Int}, x.length = 6 → y.length = 6 → ∀ t, (maxL x y).getD t 0 = if x.getD t 0 < y.getD t 0 then y.getD t 0 else x.getD t 0 := fun hx hy t => getD_maxL (by rw [hx, hy]) t
  have g2 : ∀ {x y : List Int}, x.length = 6 → y.length = 6 → ∀ t, (minL x y).getD t 0 = if y.getD t 0 < x.getD t 0 then y.getD t 0 else x.getD t 0 := fun hx hy t => getD_minL (by rw [hx, hy]) t
  have m1 : ∀ {x y : List Int}, x.length = 6 → y.length = 6 → (maxL x y).length = 6 := fun hx hy => len_maxL hx hy
  have m2 : ∀ {x y : List Int}, x.length = 6 → y.length = 6 → (minL x y).length = 6 := fun hx hy => len_minL hx hy
  have iff : ∀ {p : Prop} [Decidable p] {x : Bool}, (x = true ↔ p) → x = decide p := fun {p} _ {x} h => by
    cases x
    · exact (decide_eq_false fun hp => by simpa using h.2 hp).symm
    · exact (decide_eq_true (h.1 rfl)).symm
  refine ⟨ext6 (m1 lb la) (m1 la lb) fun t => ?_, ext6 (m2 lb la) (m2 la lb) fun t => ?_, ext6 (m1 (m1 la lb) lc) (m1 la (m1 lb lc)) fun t => ?_, ext6 (m2 (m2 la lb) lc) (m2 la (m2 lb lc)) fun t => ?_,
    ext6 (m1 la la) la fun t => ?_, ext6 (m2 la la) la fun t => ?_, ext6 (m1 la (m2 la lb)) la fun t => ?_, ext6 (m2 la (m1 la lb)) la fun t => ?_, iff ?_, iff ?_, ?_⟩
  · rw [g1 lb la, g1 la lb]; split <;> split <;> omega
  · rw [g2 lb la, g2 la lb]; split <;> split <;> omega
  · rw [g1 (m1 la lb) lc, g1 la (m1 lb lc), g1 la lb, g1 lb lc]; generalize a.getD t 0 = x; generalize b.getD t 0 = y; generalize c.getD t 0 = z; omega
  · rw [g2 (m2 la lb) lc, g2 la (m2 lb lc), g2 la lb, g2 lb lc]; generalize a.getD t 0 = x; generalize b.getD t 0 = y; generalize c.getD t 0 = z; omega
  · rw [g1 la la]; split <;> omega
  · rw [g2 la la]; split <;> omega
  · rw [g1 la (m2 la lb), g2 la lb]; split <;> split <;> omega
  · rw [g2 la (m1 la lb), g1 la lb]; split <;> split <;> omega
  · rw [leq_iff ha hb]
    constructor
    · intro h
      refine ext6 (m1 la lb) lb fun t => ?_
      have := h t
      rw [g1 la lb]; split <;> omega
    · intro h t
      have := g1 la lb t
      rw [h] at this
      split at this <;> omega
  · rw [leq_iff ha hb]
    constructor
    · intro h
      refine ext6 (m2 la lb) la fun t => ?_
      have := h t
      rw [g2 la lb]; split <;> omega
    · intro h t
      have := g2 la lb t
      rw [h] at this
      split at this <;> omega
  · refine leq_of_le (valid_minL ha hb) (valid_maxL ha hb) fun t => ?_
    rw [g2 la lb, g1 la lb]; split <;> split <;> omega

end Go.Abs
