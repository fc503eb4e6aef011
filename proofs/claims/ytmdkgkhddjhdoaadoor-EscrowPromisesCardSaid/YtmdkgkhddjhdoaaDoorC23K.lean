/- Chapter 23: what operations do to greater shares, and in other orders. -/
import Derived.Test.YtmdkgkhddjhdoaaDoorJD20A
set_option linter.all false
set_option linter.unusedSimpArgs false
set_option linter.unusedVariables false
namespace Go.Abs
open Go

theorem getD_set {l : List Int} {k i : Nat} {a : Int} (h : k < l.length) : (l.set k a).getD i 0 = if i = k then a else l.getD i 0 := by
  rw [List.getD_eq_getElem?_getD, List.getElem?_set, List.getD_eq_getElem?_getD]
  by_cases e : k = i
  · subst e; simp [h]
  · rw [if_neg e, if_neg (Ne.symm e)]

/-- what is possible is possible with more, and the difference stays -/
structure Far (s t y z : List Int) : Prop where
  ly : y.length = 6
  lz : z.length = 6
  eq : ∀ i, z.getD i 0 - y.getD i 0 = t.getD i 0 - s.getD i 0

theorem takeP_far {s t y : List Int} {st v : Int} (hs : s.length = 6) (ht : t.length = 6) (hle : s.getD st.toNat 0 ≤ t.getD st.toNat 0) (h : takeP s st v = some y) : ∃ z, takeP t st v = some z ∧ Far s t y z := by
  obtain ⟨h1, h2, h3, h4, rfl⟩ := takeP_some h
  refine ⟨_, by unfold takeP; rw [if_pos ⟨h1, h2, h3, by omega⟩], by simpa using hs, by simpa using ht, fun i => ?_⟩
  rw [getD_set (by omega), getD_set (by omega)]
  split
  · rename_i e; subst e; omega
  · rfl
theorem grantP_far {s t y : List Int} {st to v : Int} (hs : s.length = 6) (ht : t.length = 6) (hle : s.getD st.toNat 0 ≤ t.getD st.toNat 0) (h : grantP s st to v = some y) : ∃ z, grantP t st to v = some z ∧ Far s t y z := by
  obtain ⟨h1, h2, h3, y1, h4, rfl⟩ := grantP_some h
  obtain ⟨z1, hz, hf⟩ := takeP_far hs ht hle h4
  refine ⟨_, by unfold grantP; rw [if_pos ⟨h1, h2, h3⟩, hz, Option.map_some], by simpa using hf.ly, by simpa using hf.lz, fun i => ?_⟩
  have l1 := hf.ly
  have l2 := hf.lz
  rw [getD_set (by omega), getD_set (by omega)]
  have := hf.eq i
  split
  · rename_i e; subst e; omega
  · exact this
theorem opP_far {s t y : List Int} {st : Int} {o : Opr} (hs : s.length = 6) (ht : t.length = 6) (hle : s.getD st.toNat 0 ≤ t.getD st.toNat 0) (h : opP st s o = some y) : ∃ z, opP st t o = some z ∧ Far s t y z := by
  unfold opP at h ⊢
  split at h
  · rename_i hv
    rw [if_pos hv]
    split at h
    · rename_i hk; rw [if_pos hk]; exact takeP_far hs ht hle h
    · rename_i hk
      rw [if_neg hk]
      split at h
      · rename_i hg; rw [if_pos hg]; exact grantP_far hs ht hle h
      · cases h
  · cases h
theorem opsP_far {st : Int} : ∀ {l : List Opr} {s t y : List Int}, s.length = 6 → t.length = 6 → s.getD st.toNat 0 ≤ t.getD st.toNat 0 → opsP st l s = some y → ∃ z, opsP st l t = some z ∧ Far s t y z
  | [], s, t, y, hs, ht, hle, h => by
    cases h
    exact ⟨t, rfl, hs, ht, fun i => rfl⟩
  | o :: r, s, t, y, hs, ht, hle, h => by
    simp only [opsP, Option.bind_eq_some_iff] at h ⊢
    obtain ⟨s1, h1, h2⟩ := h
    obtain ⟨t1, g1, f1⟩ := opP_far hs ht hle h1
    obtain ⟨z, g2, f2⟩ := opsP_far f1.ly f1.lz (by have := f1.eq st.toNat; omega) h2
    exact ⟨z, ⟨t1, g1, g2⟩, f2.ly, f2.lz, fun i => by rw [f2.eq, f1.eq]⟩

/-- the shares of other stations do not become less -/
theorem opP_up {s y : List Int} {st : Int} {o : Opr} (hs : s.length = 6) (h : opP st s o = some y) : y.length = 6 ∧ ∀ i, i ≠ st.toNat → s.getD i 0 ≤ y.getD i 0 := by
  have tk : ∀ {y v}, takeP s st v = some y → y.length = 6 ∧ 1 ≤ v ∧ ∀ i, i ≠ st.toNat → y.getD i 0 = s.getD i 0 := by
    intro y v h
    obtain ⟨h1, h2, h3, h4, rfl⟩ := takeP_some h
    refine ⟨by simpa using hs, h3, fun i hi => ?_⟩
    rw [getD_set (by omega), if_neg hi]
  unfold opP at h
  split at h
  · split at h
    · obtain ⟨a, _, b⟩ := tk h
      exact ⟨a, fun i hi => by rw [b i hi]; exact Int.le_refl _⟩
    · split at h
      · obtain ⟨h1, h2, h3, z, h4, rfl⟩ := grantP_some h
        obtain ⟨a, hv, b⟩ := tk h4
        refine ⟨by simpa using a, fun i hi => ?_⟩
        rw [getD_set (by omega)]
        split
        · rename_i e; subst e; rw [b _ hi]; omega
        · rw [b i hi]; exact Int.le_refl _
      · cases h
  · cases h
theorem opsP_up {st : Int} : ∀ {l : List Opr} {s y : List Int}, s.length = 6 → opsP st l s = some y → y.length = 6 ∧ ∀ i, i ≠ st.toNat → s.getD i 0 ≤ y.getD i 0
  | [], s, y, hs, h => by cases h; exact ⟨hs, fun i _ => Int.le_refl _⟩
  | o :: r, s, y, hs, h => by
    simp only [opsP, Option.bind_eq_some_iff] at h
    obtain ⟨s1, h1, h2⟩ := h
    obtain ⟨a, b⟩ := opP_up hs h1
    obtain ⟨c, d⟩ := opsP_up a h2
    exact ⟨c, fun i hi => Int.le_trans (b i hi) (d i hi)⟩

theorem ext6 {a b : List Int} (ha : a.length = 6) (hb : b.length = 6) (h : ∀ i, a.getD i 0 = b.getD i 0) : a = b := by
  refine List.ext_getElem (by omega) fun i h1 h2 => ?_
  have := h i
  rwa [getD_get h1, getD_get h2] at this

/-- different stations: both orders, the same result -/
theorem opsP_swap {A B : List Opr} {m n : Int} (hm : 0 ≤ m) (hn : 0 ≤ n) (hmn : m ≠ n) {s p q : List Int} (hs : s.length = 6) (h1 : opsP m A s = some p) (h2 : opsP n B s = some q) : ∃ u, opsP n B p = some u ∧ opsP m A q = some u := by
  obtain ⟨lp, up⟩ := opsP_up hs h1
  obtain ⟨lq, uq⟩ := opsP_up hs h2
  obtain ⟨u, g1, f1⟩ := opsP_far hs lp (up n.toNat (by omega)) h2
  obtain ⟨v, g2, f2⟩ := opsP_far hs lq (uq m.toNat (by omega)) h1
  have : u = v := ext6 f1.lz f2.lz fun i => by have := f1.eq i; have := f2.eq i; omega
  subst this
  exact ⟨u, g1, g2⟩

theorem opsP_append {st : Int} : ∀ {A B : List Opr} {s : List Int}, opsP st (A ++ B) s = (opsP st A s).bind (opsP st B)
  | [], B, s => rfl
  | o :: r, B, s => by
    simp only [List.cons_append, opsP]
    cases opP st s o with
    | none => rfl
    | some y => simp only [Option.bind_some]; exact opsP_append
end Go.Abs
