/- The closure of Closure: its loops. -/
import Derived.Test.YtaiibojjndeipaaC20U
set_option linter.all false
set_option linter.unusedSimpArgs false
set_option linter.unusedVariables false
set_option maxRecDepth 100000
set_option maxHeartbeats 4000000
namespace Go.Abs
open Go

/-- what stands after the loop for station j: more than before, no more than the target D asks for -/
structure Grown (D c c2 : List Int) : Prop where
  v : valid c2 = true
  lo : le c c2
  hi : le c2 (maxL c D)

theorem Grown.trans {D a b c : List Int} (va : valid a = true) (vb : valid b = true) (vD : valid D = true) (h1 : Grown D a b) (h2 : Grown D b c) : Grown D a c := by
  refine ⟨h2.v, fun t => Int.le_trans (h1.lo t) (h2.lo t), fun t => ?_⟩
  have e1 := h1.hi t
  have e2 := h2.hi t
  rw [getD_maxL (by rw [valid_len va, valid_len vD])] at e1 ⊢
  rw [getD_maxL (by rw [valid_len vb, valid_len vD])] at e2
  split at e1 <;> split at e2 <;> split <;> omega

theorem total_mono {a b : List Int} (ha : a.length = 6) (hb : b.length = 6) (h : le a b) : total a ≤ total b := by
  obtain ⟨a0, a1, a2, a3, a4, a5, rfl⟩ := six ha
  obtain ⟨b0, b1, b2, b3, b4, b5, rfl⟩ := six hb
  have h0 : a0 ≤ b0 := h 0
  have h1 : a1 ≤ b1 := h 1
  have h2 : a2 ≤ b2 := h 2
  have h3 : a3 ≤ b3 := h 3
  have h4 : a4 ≤ b4 := h 4
  have h5 : a5 ≤ b5 := h 5
  simp only [total, List.map_cons, List.map_nil, List.sum_cons, List.sum_nil]
  omega

theorem own_valid {l : List Com} {e : Com} (h : CGood l e) : valid (own e) = true := by
  rw [valid_iff]
  refine ⟨by unfold own; rw [List.length_set]; exact h.len, fun t => ?_⟩
  have h1 := (valid_iff.1 h.valid).2 t
  have h2 := h.seq
  have h3 := h.pst
  rw [own_get h]
  split <;> omega

theorem add_b1 {f : SlF} {l : List Com} (hl : LGood l) {D : List Int} (vD : valid D = true) (hD : Clo l D) {N n j : Nat} {ρ : Sto} {Q : Post3} {k : List Item} (hj : j < 6) (hn : n < ρ.length + 5) (hρ : ∀ p, ρ.all (AObj.under p) = true)
    (calls : ∀ c, valid c = true → 6000 - total c < N → ∀ e ∈ l, AddOk f l c e.st.toNat e.seq (maxL c (own e))) :
    ∀ M (c : List Int), valid c = true → 6000 - total c ≤ M → M ≤ N →
    (∀ c2, Grown D c c2 → D.getD j 0 ≤ c2.getD j 0 → Run T Q k (mkE 69 [(1, .ptr 1 1 0), (2, .ptr 0 1 0), (3, .ptr 3 1 0), (4, .ptr 4 1 0), (40, .ref n 6 0 6 1), (41, .int .i64 6), (42, .int .i64 j)]) (Bst f l c2 ρ)) →
    Run T Q (.inLoop cut_Closure_1.b1 :: .inBlock 2 :: .code (.ghost (.kill [10, 11, 52])) :: k) (mkE 69 [(1, .ptr 1 1 0), (2, .ptr 0 1 0), (3, .ptr 3 1 0), (4, .ptr 4 1 0), (10, .int .i64 j), (11, .int .i64 (D.getD j 0)), (40, .ref n 6 0 6 1), (41, .int .i64 6), (42, .int .i64 j)]) (Bst f l c ρ) := by
  intro M
  induction M with
  | zero => intro c hv h0; have := total_le hv; omega
  | succ M ih =>
    intro c hv hM hMN next
    by_cases hlt : c.getD j 0 < D.getD j 0
    · have h6 := valid_len hv
      have b1 := (valid_iff.1 hv).2 j
      have b2 := (valid_iff.1 vD).2 j
      obtain ⟨e, he, e1, e2, e3⟩ := hD j (c.getD j 0 + 1) (by omega) (by omega)
      have hvs : valid (c.set j (c.getD j 0 + 1)) = true := by
        rw [valid_iff]
        refine ⟨by rw [List.length_set]; exact h6, fun t => ?_⟩
        rw [getD_set (by omega)]
        have := (valid_iff.1 hv).2 t
        split <;> omega
      have ge := hl.coms e he
      have ve := own_valid ge
      have vm := valid_maxL hvs ve
      have ht := total_set (o := c) (i := j) (v := (c.getD j 0).toNat + 1) (by omega)
      have hcast : (((c.getD j 0).toNat + 1 : Nat) : Int) = c.getD j 0 + 1 := by omega
      rw [hcast] at ht
      have hmono := total_mono (valid_len hvs) (valid_len vm) (le_maxL1 (by rw [valid_len hvs, valid_len ve]))
      refine add_round hv hj hlt (by omega) hn hρ (c2 := maxL (c.set j (c.getD j 0 + 1)) (own e)) ?_ ?_
      · have key : AddOk f l (c.set j (c.getD j 0 + 1)) e.st.toNat e.seq (maxL (c.set j (c.getD j 0 + 1)) (own e)) := @calls _ hvs (by have := total_le hvs; omega) e he
        rw [e1, e2, Int.toNat_natCast] at key
        exact @key
      · refine ih _ vm (by have := total_le vm; omega) (by omega) fun c2 g hd => next c2 (Grown.trans hv vm vD ⟨vm, fun t => ?_, fun t => ?_⟩ g) hd
        · rw [getD_maxL (by rw [valid_len hvs, valid_len ve]), getD_set (by omega)]
          split <;> (try split) <;> (try subst_vars) <;> omega
        · have := e3 t
          rw [getD_maxL (by rw [valid_len hvs, valid_len ve]), getD_set (by omega), getD_maxL (by rw [valid_len hv, valid_len vD])]
          by_cases htj : t = j
          · subst htj; simp only [if_true]; (repeat' split) <;> omega
          · simp only [if_neg htj]; (repeat' split) <;> omega
    · have h6 := valid_len hv
      have hjl : j < c.length := by omega
      have hg : c.getD j 0 = c[j] := by rw [List.getD_eq_getElem?_getD, List.getElem?_eq_getElem hjl]; rfl
      have hge : D.getD j 0 ≤ c.getD j 0 := by omega
      rw [hg] at hlt
      rw [run_round, run_unfold cut_Closure_1.b1.eq_1]
      simp (maxSteps := 2000000) only [go_sem, ↓reduceIte, Nat.reduceLT, Nat.reduceEqDiff, Nat.reduceLeDiff, Nat.reduceAdd, Nat.reduceSub, Nat.reduceMul, Int.reduceLT, Int.reduceLE, Int.reduceEq, Int.reduceNeg, ↓len5, hj, hjl, h6, hlt]
      exact next c ⟨hv, fun t => Int.le_refl _, le_maxL1 (by rw [h6, valid_len vD])⟩ hge

/-- all of the stations -/
theorem add_b0 {f : SlF} {l : List Com} (hl : LGood l) {D : List Int} (vD : valid D = true) (hD : Clo l D) {N n : Nat} {ρ : Sto} {R : Post} (hn : n < ρ.length + 5) (hρ : ∀ p, ρ.all (AObj.under p) = true)
    (hg : ∀ c, (Bst f l c ρ)[n]? = some (.cells false (D.map fun n => .int .i64 n)))
    (calls : ∀ c, valid c = true → 6000 - total c < N → ∀ e ∈ l, AddOk f l c e.st.toNat e.seq (maxL c (own e))) {c0 : List Int} (v0 : valid c0 = true) (h0 : 6000 - total c0 ≤ N)
    (done : R (.bool true) (Bst f l (maxL c0 D) ρ)) {x y : List (Nat × AVal)} : ∀ j, j ≤ 6 → ∀ c, Grown D c0 c → (∀ t, t < j → D.getD t 0 ≤ c.getD t 0) →
    Run T (Ret [.tmp 6] R) (.inLoop cut_Closure_1.b0 :: cut_Closure_1.k0) (mkE 69 [(1, .ptr 1 1 0), (2, .ptr 0 1 0), (3, .ptr 3 1 0), (4, .ptr 4 1 0), (40, .ref n 6 0 6 1), (41, .int .i64 6), (42, .int .i64 j)]) (Bst f l c ρ) := by
  refine up_ind ?_ fun j hj ih => ?_
  · intro c g hlo
    rw [run_round, run_unfold cut_Closure_1.b0.eq_1]
    simp (maxSteps := 2000000) only [go_sem, ↓reduceIte, Nat.reduceLT, Nat.reduceEqDiff, Nat.reduceLeDiff, Nat.reduceAdd, Nat.reduceSub, Nat.reduceMul, Int.reduceLT, Int.reduceLE, Int.reduceEq, Int.reduceNeg, run_unfold cut_Closure_1.c0.eq_1, run_unfold cut_Closure_1.c1.eq_1, run_unfold cut_Closure_1.c2.eq_1, cut_Closure_1.k0, cut_Closure_1.k1]
    have l0 := valid_len v0
    have lD := valid_len vD
    have : maxL c0 D = c := ext6 (len_maxL l0 lD) (valid_len g.v) fun t => by
      have e1 := g.lo t
      have e2 := g.hi t
      rw [getD_maxL (by rw [l0, lD])] at e2 ⊢
      by_cases ht : t < 6
      · have := hlo t ht
        split at e2 <;> omega
      · have z1 : D.getD t 0 = 0 := by rw [List.getD_eq_getElem?_getD, List.getElem?_eq_none (by omega)]; rfl
        have z2 : c.getD t 0 = 0 := by rw [List.getD_eq_getElem?_getD, List.getElem?_eq_none (by have := valid_len g.v; omega)]; rfl
        have z3 : c0.getD t 0 = 0 := by rw [List.getD_eq_getElem?_getD, List.getElem?_eq_none (by omega)]; rfl
        rw [z1, z2, z3]; rfl
    rw [← this]
    exact done
  · intro c g hlo
    rw [run_round, run_unfold cut_Closure_1.b0.eq_1]
    have hjD : j < D.length := by have := valid_len vD; omega
    have hDj : D.getD j 0 = D[j] := by rw [List.getD_eq_getElem?_getD, List.getElem?_eq_getElem hjD]; rfl
    simp (maxSteps := 2000000) only [go_sem, ↓reduceIte, Nat.reduceLT, Nat.reduceEqDiff, Nat.reduceLeDiff, Nat.reduceAdd, Nat.reduceSub, Nat.reduceMul, Int.reduceLT, Int.reduceLE, Int.reduceEq, Int.reduceNeg, ↓len5, hj, hg, hjD, valid_len vD, show ((j : Int) < 6) by omega, show j ≤ 5 by omega, show j + 1 ≤ 6 by omega]
    rw [← hDj]
    have hm := total_mono (valid_len v0) (valid_len g.v) g.lo
    refine add_b1 (f := f) hl vD hD (Q := Ret [.tmp 6] R) hj hn hρ calls (6000 - total c) c g.v (Nat.le_refl _) (by omega) fun c2 g2 hd => ?_
    have htake : ρ.take ρ.length = ρ := by simp
    simp (maxSteps := 2000000) only [go_sem, ↓reduceIte, Nat.reduceLT, Nat.reduceEqDiff, Nat.reduceLeDiff, Nat.reduceAdd, Nat.reduceSub, Nat.reduceMul, Int.reduceLT, Int.reduceLE, Int.reduceEq, Int.reduceNeg, ↓len5, htake, hρ, hn, show 2 < ρ.length + 5 by omega, show 1 < ρ.length + 5 by omega, show 0 < ρ.length + 5 by omega, show 3 < ρ.length + 5 by omega, show 4 < ρ.length + 5 by omega, run_unfold cut_Closure_1.c0.eq_1, run_unfold cut_Closure_1.c1.eq_1, run_unfold cut_Closure_1.c2.eq_1, cut_Closure_1.k0, cut_Closure_1.k1, wrap_succ (show j < 9223372036854775807 by omega)]
    exact ih c2 (Grown.trans v0 g.v vD g g2) fun t ht => by
      by_cases e : t = j
      · rw [e]; exact hd
      · have := hlo t (by omega); have := g2.lo t; omega

end Go.Abs
