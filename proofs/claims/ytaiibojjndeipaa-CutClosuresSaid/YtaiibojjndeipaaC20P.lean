/- Plain laws of chapter 20: the lists that the reference makes are consistent. -/
import Derived.Test.YtaiibojjndeipaaC20N
set_option linter.all false
set_option linter.unusedSimpArgs false
set_option linter.unusedVariables false
namespace Go.Abs
open Go

def le (a b : List Int) : Prop := ∀ t : Nat, a.getD t 0 ≤ b.getD t 0
def Clo (out : List Com) (R : List Int) : Prop := ∀ (t : Nat) (q : Int), 1 ≤ q → q ≤ R.getD t 0 → ∃ c ∈ out, c.st = (t : Int) ∧ c.seq = q ∧ le (own c) R

theorem getD_set {a : List Int} {s t : Nat} {v : Int} (h : s < a.length) : (a.set s v).getD t 0 = if t = s then v else a.getD t 0 := by
  simp only [List.getD_eq_getElem?_getD, List.getElem?_set]
  by_cases e : t = s
  · subst e; simp [h]
  · rw [if_neg (Ne.symm e), if_neg e]
theorem getD_maxL {a b : List Int} (h : a.length = b.length) (t : Nat) : (maxL a b).getD t 0 = if a.getD t 0 < b.getD t 0 then b.getD t 0 else a.getD t 0 := by
  simp only [maxL, List.getD_eq_getElem?_getD, List.getElem?_zipWith]
  by_cases ht : t < a.length
  · simp [List.getElem?_eq_getElem ht, List.getElem?_eq_getElem (h ▸ ht : t < b.length)]
  · simp [List.getElem?_eq_none (show a.length ≤ t by omega), List.getElem?_eq_none (show b.length ≤ t by omega)]
theorem getD_mem {a : List Int} {t : Nat} (h : t < a.length) : a.getD t 0 ∈ a := by
  rw [List.getD_eq_getElem?_getD, List.getElem?_eq_getElem h]; exact List.getElem_mem h

theorem Clo.join {out : List Com} {a b : List Int} (h : a.length = b.length) (ha : Clo out a) (hb : Clo out b) : Clo out (maxL a b) := by
  intro t q h1 h2
  rw [getD_maxL h] at h2
  have la : le a (maxL a b) := fun t => by rw [getD_maxL h]; split <;> omega
  have lb : le b (maxL a b) := fun t => by rw [getD_maxL h]; split <;> omega
  split at h2
  · obtain ⟨c, hc, e1, e2, e3⟩ := hb t q h1 h2
    exact ⟨c, hc, e1, e2, fun t => Int.le_trans (e3 t) (lb t)⟩
  · obtain ⟨c, hc, e1, e2, e3⟩ := ha t q h1 h2
    exact ⟨c, hc, e1, e2, fun t => Int.le_trans (e3 t) (la t)⟩
theorem Clo.mono {out out' : List Com} {a : List Int} (h : Clo out a) (hs : ∀ c ∈ out, c ∈ out') : Clo out' a := fun t q h1 h2 => by
  obtain ⟨c, hc, e⟩ := h t q h1 h2
  exact ⟨c, hs c hc, e⟩

structure CGood (out : List Com) (c : Com) : Prop where
  s0 : 0 ≤ c.st
  s3 : c.st < 3
  len : c.past.length = 6
  row : ∀ x ∈ c.past, 0 ≤ x ∧ x ≤ 12
  seq : c.seq = c.past.getD c.st.toNat 0 + 1
  clo : Clo out c.past
structure HGood (x : HS) : Prop where
  inv : HInv x.out.length x.K
  clo : ∀ R ∈ x.K, Clo x.out R
  coms : ∀ c ∈ x.out, CGood x.out c
  top : ∀ c ∈ x.out, c.seq ≤ (x.K.getD c.st.toNat []).getD c.st.toNat 0
  nd : x.out.Pairwise fun a b => ¬ (a.st = b.st ∧ a.seq = b.seq)

theorem getD_setL {K : List (List Int)} {s t : Nat} {v : List Int} (h : s < K.length) : (K.set s v).getD t [] = if t = s then v else K.getD t [] := by
  simp only [List.getD_eq_getElem?_getD, List.getElem?_set]
  by_cases e : t = s
  · subst e; simp [h]
  · rw [if_neg (Ne.symm e), if_neg e]

theorem HGood.next {x : HS} (h : HGood x) (hn : x.out.length < 12) {s t u : Nat} (hs : s < 3) (ht : t < 3) : HGood (hnext x s t u) := by
  obtain ⟨K, hK⟩ : ∃ K, hjoin x.K s t u = K := ⟨_, rfl⟩
  have hI := h.inv.join (u := u) hs ht
  rw [hK] at hI
  obtain ⟨k1, g1, r1⟩ := h.inv.get hs
  obtain ⟨k2, g2, r2⟩ := h.inv.get ht
  obtain ⟨k3, g3, r3⟩ := hI.get hs
  have mem1 : x.K[s] ∈ x.K := List.getElem_mem k1
  have mem2 : x.K[t] ∈ x.K := List.getElem_mem k2
  -- the joined rows are closed
  have hclo : ∀ R ∈ K, Clo x.out R := by
    intro R hR
    rw [← hK] at hR
    unfold hjoin at hR
    split at hR
    · rcases List.mem_or_eq_of_mem_set hR with hR | rfl
      · exact h.clo R hR
      · rw [g1, g2]; exact Clo.join (by rw [r1.1, r2.1]) (h.clo _ mem1) (h.clo _ mem2)
    · exact h.clo R hR
  -- what a row says of a station is at most what the station says of itself
  have hle : ∀ R ∈ x.K, ∀ a : Nat, a < 3 → R.getD a 0 ≤ (x.K.getD a []).getD a 0 := by
    intro R hR a ha
    rcases Int.lt_or_le (R.getD a 0) 1 with h1 | h1
    · obtain ⟨k4, g4, r4⟩ := h.inv.get ha
      have : 0 ≤ (x.K.getD a []).getD a 0 := by
        rw [g4]; exact (r4.2 _ (getD_mem (by omega))).1
      omega
    · obtain ⟨c, hc, e1, e2, _⟩ := h.clo R hR a _ h1 (Int.le_refl _)
      have := h.top c hc
      rw [e1, e2] at this
      simpa using this
  have hdiag : ∀ a : Nat, (K.getD a []).getD a 0 = (x.K.getD a []).getD a 0 ∨ ¬ a < 3 := by
    intro a
    by_cases ha : a < 3
    · left
      rw [← hK]
      unfold hjoin
      split
      · rw [getD_setL k1]
        split
        · rename_i e; subst e
          rw [g1, g2, getD_maxL (by rw [r1.1, r2.1])]
          have := hle _ mem2 a ha
          rw [g1] at this
          rw [if_neg (by omega)]
        · rfl
      · rfl
    · exact .inr ha
  have hc : hcom K s = mkCom s (K[s].getD s 0 + 1) K[s] := by unfold hcom; rw [g3]
  have hout : (hnext x s t u).out = x.out ++ [hcom K s] := by simp only [hnext, hK]
  have hKn : (hnext x s t u).K = K.set s (own (hcom K s)) := by simp only [hnext, hK]
  have hsub : ∀ c ∈ x.out, c ∈ x.out ++ [hcom K s] := fun c hc => by simp [hc]
  have hown : own (hcom K s) = K[s].set s (K[s].getD s 0 + 1) := by rw [hc]; rfl
  have hs6 : s < K[s].length := by omega
  have hgo : ∀ a, (own (hcom K s)).getD a 0 = if a = s then K[s].getD s 0 + 1 else K[s].getD a 0 := fun a => by rw [hown, getD_set hs6]
  have hpo : le K[s] (own (hcom K s)) := fun a => by rw [hgo]; split; · rename_i e; subst e; omega
                                                     · omega
  have hcK : Clo (x.out ++ [hcom K s]) K[s] := (hclo _ (List.getElem_mem k3)).mono hsub
  have hnew : CGood (x.out ++ [hcom K s]) (hcom K s) := by
    rw [hc] at hcK ⊢
    refine ⟨by show (0 : Int) ≤ (s : Int); omega, by show ((s : Nat) : Int) < 3; omega, r3.1, fun v hv => ?_, ?_, hcK⟩
    · have := r3.2 v hv; omega
    · show K[s].getD s 0 + 1 = K[s].getD ((s : Int)).toNat 0 + 1
      rw [Int.toNat_natCast]
  have hst : (hcom K s).st = (s : Int) := by rw [hc]; rfl
  have hsq : (hcom K s).seq = K[s].getD s 0 + 1 := by rw [hc]; rfl
  have hds : K[s].getD s 0 = (x.K.getD s []).getD s 0 := by have := (hdiag s).resolve_right (by omega); rwa [g3] at this
  refine ⟨?_, ?_, ?_, ?_, ?_⟩
  · rw [hout, hKn]; simpa using hI.step hs
  · rw [hout, hKn]
    intro R hR
    rcases List.mem_or_eq_of_mem_set hR with hR | rfl
    · exact (hclo R hR).mono hsub
    · intro a q h1 h2
      rw [hgo] at h2
      by_cases ha : a = s
      · rw [if_pos ha] at h2
        rcases Int.lt_or_le (K[s].getD s 0) q with hq | hq
        · exact ⟨hcom K s, by simp, by rw [hst, ha], by rw [hsq]; omega, fun _ => Int.le_refl _⟩
        · obtain ⟨c, m, e1, e2, e3⟩ := hcK a q h1 (by rw [ha]; exact hq)
          exact ⟨c, m, e1, e2, fun z => Int.le_trans (e3 z) (hpo z)⟩
      · rw [if_neg ha] at h2
        obtain ⟨c, m, e1, e2, e3⟩ := hcK a q h1 h2
        exact ⟨c, m, e1, e2, fun z => Int.le_trans (e3 z) (hpo z)⟩
  · rw [hout]
    intro c hm
    rcases List.mem_append.1 hm with hm | hm
    · have := h.coms c hm
      exact ⟨this.s0, this.s3, this.len, this.row, this.seq, this.clo.mono hsub⟩
    · obtain rfl := List.mem_singleton.1 hm
      exact hnew
  · rw [hout, hKn]
    intro c hm
    have k3' : s < K.length := k3
    rw [getD_setL k3']
    rcases List.mem_append.1 hm with hm | hm
    · have h1 := h.top c hm
      have h2 := h.coms c hm
      have h3 : c.st.toNat < 3 := by have := h2.s0; have := h2.s3; omega
      split
      · rename_i e
        rw [hgo, if_pos e]
        rw [e] at h1; omega
      · have := (hdiag c.st.toNat).resolve_right (by omega)
        rw [this]; exact h1
    · obtain rfl := List.mem_singleton.1 hm
      rw [hst, Int.toNat_natCast, if_pos rfl, hgo, if_pos rfl, hsq]
      omega
  · rw [hout, List.pairwise_append]
    refine ⟨h.nd, List.pairwise_singleton _ _, fun a ha b hb => ?_⟩
    obtain rfl := List.mem_singleton.1 hb
    rintro ⟨e1, e2⟩
    have h1 := h.top a ha
    rw [e1, e2, hst, Int.toNat_natCast, hsq, hds] at h1
    omega

theorem headers_good (b : List Nat) : HGood ((b.take 12).foldl hstep ⟨[], [zeros, zeros, zeros]⟩) := by
  have key : ∀ (l : List Nat) (x : HS), HGood x → x.out.length + l.length ≤ 12 → HGood (l.foldl hstep x) := by
    intro l
    induction l with
    | nil => intro x h _; exact h
    | cons a l ih =>
      intro x h hn
      simp only [List.length_cons] at hn
      rw [List.foldl_cons]
      exact ih _ (h.next (by omega) (Nat.mod_lt _ (by decide)) (Nat.mod_lt _ (by decide))) (by simp only [hstep, hnext, List.length_append, List.length_singleton]; omega)
  refine key _ _ ⟨⟨rfl, by decide⟩, fun R hR => ?_, fun c hc => by simp at hc, fun c hc => by simp at hc, List.Pairwise.nil⟩ (by simp; omega)
  intro t q h1 h2
  have : R = zeros := by simpa using hR
  subst this
  have : (zeros : List Int).getD t 0 = 0 := by
    match t with
    | 0 | 1 | 2 | 3 | 4 | 5 => rfl
    | t + 6 => rfl
  omega

end Go.Abs
