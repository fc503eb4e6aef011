/- Parts of the proof: C42M, C42N, C42Q, C42S, C42R, C42EX, C42T. -/
import Derived.Test.YtpclhokdlhcjkaaJC42A
set_option linter.all false
/- The plain law of windows: what the values along an order are. -/
set_option linter.unusedSimpArgs false
set_option linter.unusedVariables false
namespace Go.Abs
open Go

abbrev stepS (kd c : Int) (ord : List Int) (l : Rows) (st : St) (y : Int) : St := (nextS kd c ord st (rowP l y)).1
/-- the rows of the same partition that stand ahead -/
def aheadP (part : Int → Int) (s : List Int) (k : Nat) (x : Int) : List Int := (s.take k).filter fun y => decide (part y = part x)

theorem compF_some {kd c : Int} {ord : List Int} {l : Rows} {part : Int → Int} : ∀ (s : List Int) (g : Int → St) (D D' : List Val), compF kd c ord l part g s D = some D' → s.Nodup → (∀ x ∈ s, 0 ≤ x ∧ x < D.length) →
    D'.length = D.length ∧ (∀ i, (∀ x ∈ s, x.toNat ≠ i) → D'[i]? = D[i]?) ∧
    ∀ (k : Nat) (hk : k < s.length), D'[(s[k]).toNat]? = some (nextS kd c ord ((aheadP part s k s[k]).foldl (stepS kd c ord l) (g (part s[k]))) (rowP l s[k])).2.1
  | [], g, D, D', h, _, _ => by
    simp only [compF, Option.some.injEq] at h
    subst h
    exact ⟨rfl, fun _ _ => rfl, fun k hk => absurd hk (by simp)⟩
  | x :: s, g, D, D', h, hnd, hin => by
    rw [compF] at h
    split at h
    case isFalse => simp at h
    rw [List.nodup_cons] at hnd
    have hx := hin x (by simp)
    obtain ⟨h1, h2, h3⟩ := compF_some s _ _ D' h hnd.2 (fun y hy => by rw [List.length_set]; exact hin y (by simp [hy]))
    rw [List.length_set] at h1
    refine ⟨h1, fun i hi => ?_, fun k hk => ?_⟩
    · rw [h2 i fun y hy => hi y (by simp [hy]), List.getElem?_set, if_neg (hi x (by simp))]
    · cases k with
      | zero =>
        simp only [List.getElem_cons_zero, aheadP, List.take_zero, List.filter_nil, List.foldl_nil]
        rw [h2 x.toNat fun y hy e => hnd.1 (by
          have := hin y (by simp [hy])
          have : y = x := by omega
          rw [← this]; exact hy), List.getElem?_set_self (by omega)]
      | succ k =>
        have hk' : k < s.length := by simpa using hk
        simp only [List.getElem_cons_succ]
        rw [h3 k hk']
        simp only [aheadP, List.take_succ_cons]
        by_cases e : part s[k] = part x
        · rw [List.filter_cons_of_pos (by simp [e])]
          simp only [List.foldl_cons, e, if_true]
        · rw [List.filter_cons_of_neg (by simp; exact fun h => e h.symm)]
          rw [if_neg e]

theorem compF_total {kd c : Int} {ord : List Int} {l : Rows} {part : Int → Int} (hok : ∀ st fr, (nextS kd c ord st fr).2.2 = true) : ∀ (s : List Int) (g : Int → St) (D : List Val), ∃ D', compF kd c ord l part g s D = some D'
  | [], g, D => ⟨D, rfl⟩
  | x :: s, g, D => by
    rw [compF, if_pos (hok _ _)]
    exact compF_total hok s _ _
theorem next_ok {kd c : Int} {ord : List Int} (h : kd = 1 ∨ kd = 2 ∨ kd = 4) (st : St) (fr : SlF × List Val) : (nextS kd c ord st fr).2.2 = true := by
  rcases h with rfl | rfl | rfl <;> rfl

theorem nextS_n {kd c : Int} {ord : List Int} {s : St} {fr : SlF × List Val} : (nextS kd c ord s fr).1.n = IntKind.i64.wrap (s.n + 1) := by
  unfold nextS
  dsimp only
  repeat' split
  all_goals rfl
theorem fold_n {kd c : Int} {ord : List Int} {l : Rows} : ∀ (L : List Int) (st : St) (m : Nat), st.n = m → m + L.length < 1000000 → (L.foldl (stepS kd c ord l) st).n = (m + L.length : Nat)
  | [], st, m, h, _ => by simpa using h
  | y :: L, st, m, h, hb => by
    simp only [List.length_cons] at hb
    rw [List.foldl_cons, fold_n L _ (m + 1) (by rw [stepS, nextS_n, h, wrap_i64 (by omega) (by omega)]; omega) (by omega)]
    simp only [List.length_cons]; omega
theorem fold_last {kd c : Int} {ord : List Int} {l : Rows} : ∀ (L : List Int) (st : St), (L.foldl (stepS kd c ord l) st).last = match L.getLast? with | some y => some (rowP l y) | none => st.last
  | [], st => rfl
  | y :: L, st => by
    rw [List.foldl_cons, fold_last L]
    cases L with
    | nil => simp [stepS, nextS_last]
    | cons z L =>
      rw [List.getLast?_cons_cons, List.getLast?_eq_some_getLast (by simp)]

/-! ### Partitions -/
theorem partFold_law {key : Int → List Val} : ∀ (s : List Int) (n : Int) (prev : Option (List Val)) (D : List Int), s.Nodup → (∀ x ∈ s, 0 ≤ x ∧ x < D.length) → s.Pairwise (fun a b => cmpR (key a) (key b) ≤ 0) → (∀ k0, prev = some k0 → ∀ x ∈ s, cmpR k0 (key x) ≤ 0) →
    (∀ i, (∀ x ∈ s, x.toNat ≠ i) → (partFold key n prev s D)[i]? = D[i]?) ∧
    (∀ x ∈ s, n ≤ gdZ (partFold key n prev s D) x) ∧
    (∀ k0, prev = some k0 → ∀ x ∈ s, (gdZ (partFold key n prev s D) x = n ↔ key x = k0)) ∧
    (∀ x ∈ s, ∀ y ∈ s, (gdZ (partFold key n prev s D) x = gdZ (partFold key n prev s D) y ↔ key x = key y))
  | [], n, prev, D, _, _, _, _ => ⟨fun _ _ => rfl, by simp, by simp, by simp⟩
  | i :: r, n, prev, D, hnd, hin, hso, hpr => by
    rw [List.nodup_cons] at hnd
    rw [List.pairwise_cons] at hso
    have hi := hin i (by simp)
    rw [partFold]
    generalize hn' : (if prev.getD (key i) = key i then n else n + 1) = n'
    obtain ⟨h1, h2, h3, h4⟩ := partFold_law r n' (some (key i)) (D.set i.toNat n') hnd.2 (fun x hx => by rw [List.length_set]; exact hin x (by simp [hx])) hso.2 (fun k0 hk x hx => by obtain rfl := Option.some.inj hk; exact hso.1 x hx)
    generalize partFold key n' (some (key i)) r (D.set i.toNat n') = D' at h1 h2 h3 h4 ⊢
    have hDi : gdZ D' i = n' := by
      unfold gdZ
      rw [List.getD_eq_getElem?_getD, h1 i.toNat fun x hx e => hnd.1 (by
        have := hin x (by simp [hx])
        have : x = i := by omega
        rw [← this]; exact hx), List.getElem?_set_self (by omega)]
      rfl
    have hle : n ≤ n' := by rw [← hn']; split <;> omega
    have hir : ∀ x ∈ r, (gdZ D' x = n' ↔ key x = key i) := h3 _ rfl
    refine ⟨fun j hj => ?_, fun x hx => ?_, fun k0 hk x hx => ?_, fun x hx y hy => ?_⟩
    · rw [h1 j fun x hx => hj x (by simp [hx]), List.getElem?_set, if_neg (hj i (by simp))]
    · rcases List.mem_cons.1 hx with rfl | hx
      · rw [hDi]; exact hle
      · have := h2 x hx; omega
    · subst hk
      simp only [Option.getD_some] at hn'
      have hki := hpr k0 rfl i (by simp)
      rcases List.mem_cons.1 hx with rfl | hx
      · rw [hDi, ← hn']
        constructor
        · intro h
          split at h
          · rename_i e; exact e.symm
          · omega
        · rintro rfl; rw [if_pos rfl]
      · by_cases e : k0 = key i
        · rw [if_pos e] at hn'
          subst hn'
          rw [hir x hx, e]
        · rw [if_neg e] at hn'
          constructor
          · intro h; have := h2 x hx; omega
          · intro h
            exfalso
            have := (cmpR_trans hki (hso.1 x hx)).2 (by rw [h]; exact cmpR_zero.2 rfl)
            exact e (cmpR_zero.1 this.1)
    · rcases List.mem_cons.1 hx with ex | hx' <;> rcases List.mem_cons.1 hy with ey | hy'
      · rw [ex, ey]; simp
      · rw [ex, hDi]
        constructor
        · intro h; exact ((hir y hy').1 h.symm).symm
        · intro h; exact ((hir y hy').2 h.symm).symm
      · rw [ey, hDi]; exact hir x hx'
      · exact h4 x hx' y hy'

theorem sortI_nodup (l : Rows) (by_ : List Int) : (sortI l by_).Nodup := (isort_perm _ _).nodup_iff.2 (upN_nodup _)
theorem sortI_mem {l : Rows} {by_ : List Int} {x : Int} (h : 0 ≤ x ∧ x < l.length) : x ∈ sortI l by_ := by
  refine (isort_mem _).2 ?_
  simp only [upN, List.mem_map, List.mem_range]
  exact ⟨x.toNat, by omega, by omega⟩
theorem sortI_pair (l : Rows) (by_ : List Int) : (sortI l by_).Pairwise (fun a b => cmpI l by_ a b ≤ 0) := by
  have h := isort_sorted (ltI_tot l by_ (fun _ => True)).toOrd3 (D := upN l.length) (fun _ _ => trivial)
  refine h.imp fun {a b} hab => ?_
  simp only [ltI, decide_eq_false_iff_not] at hab
  have := cmpI_anti l by_ b a
  omega
theorem cmpI_key {l : Rows} {by_ : List Int} {a b : Int} (h : cmpI l by_ a b ≤ 0) : cmpR (keyI l by_ a) (keyI l by_ b) ≤ 0 := by
  simp only [cmpI, firstN3] at h
  by_cases e : cmpR (pickC (rowN l a) by_) (pickC (rowN l b) by_) = 0
  · rw [e]; omega
  · rw [if_neg e] at h; exact h
theorem partI_law {l : Rows} {by_ : List Int} {x y : Int} (hx : 0 ≤ x ∧ x < l.length) (hy : 0 ≤ y ∧ y < l.length) : gdZ (partI l by_) x = gdZ (partI l by_) y ↔ keyI l by_ x = keyI l by_ y :=
  (partFold_law (key := keyI l by_) (sortI l by_) 0 none (List.replicate l.length 0) (sortI_nodup l by_) (fun x hx => by rw [List.length_replicate]; exact sortI_in hx) ((sortI_pair l by_).imp cmpI_key) (fun _ h => by simp at h)).2.2.2 x (sortI_mem hx) y (sortI_mem hy)

/-! ### Where a row stands in its partition -/
theorem filter_at {q : Int → Bool} {s : List Int} {k : Nat} (hk : k < s.length) (hq : q s[k] = true) : (s.filter q)[((s.take k).filter q).length]? = some s[k] := by
  have e : s = s.take k ++ s[k] :: s.drop (k + 1) := by rw [← List.drop_eq_getElem_cons hk, List.take_append_drop]
  have : s.filter q = (s.take k).filter q ++ s[k] :: (s.drop (k + 1)).filter q := by
    conv => lhs; rw [e]
    rw [List.filter_append, List.filter_cons_of_pos hq]
  rw [this, List.getElem?_append_right (Nat.le_refl _), Nat.sub_self]; rfl
theorem filter_take {q : Int → Bool} {s : List Int} {k : Nat} : (s.take k).filter q = (s.filter q).take ((s.take k).filter q).length := by
  have : s.filter q = (s.take k).filter q ++ (s.drop k).filter q := by rw [← List.filter_append, List.take_append_drop]
  rw [this, List.take_left']
  rfl
end Go.Abs
/- The plain law of windows: tables that were made; numbers and predecessors. -/
set_option linter.unusedSimpArgs false
set_option linter.unusedVariables false
namespace Go.Abs
open Go

theorem strOf_size (n : Nat) : (strOf n).size ≤ 1 := by unfold strOf; repeat' split
                                                        all_goals decide
theorem mkRow_len (k : B4) : (mkRow k).length = 4 := rfl
theorem mkRow_short (k : B4) : ∀ v ∈ mkRow k, Short v := by
  intro v hv
  have h0 : (⟨#[]⟩ : ByteArray).size = 0 := rfl
  simp only [mkRow, List.mem_cons, List.not_mem_nil, or_false] at hv
  unfold Short
  rcases hv with rfl | rfl | rfl | rfl
  · simp only [numV, h0]; omega
  · split
    · simp only [zV, h0]; omega
    · simp only [numV, h0]; omega
  · have := strOf_size (k.2.2.1 % 3); simp only; omega
  · simp only [h0]; omega
theorem mkRows_len (l : List B4) : (mkRows l).length = min 16 l.length := by simp [mkRows]
theorem mkRows_mem {l : List B4} {p : SlF × List Val} (h : p ∈ mkRows l) : p.2.length = 4 ∧ ∀ v ∈ p.2, Short v := by
  simp only [mkRows, List.mem_map] at h
  obtain ⟨k, _, rfl⟩ := h
  exact ⟨rfl, mkRow_short k⟩
theorem mkRows_fit (l : List B4) : RowsFit (mkRows l) := by
  refine ⟨by rw [mkRows_len]; omega, fun p hp => ⟨?_, (mkRows_mem hp).2⟩⟩
  unfold Fits; rw [(mkRows_mem hp).1]; omega
theorem mkRows_tab {l : List B4} {cols : List Int} (h : ∀ c ∈ cols, 0 ≤ c ∧ c < 4) : tab (mkRows l) cols = true := by
  have hw : ∀ p ∈ mkRows l, p.2.length = wid (mkRows l) := by
    intro p hp
    cases hm : mkRows l with
    | nil => rw [hm] at hp; simp at hp
    | cons q r =>
      simp only [wid]
      rw [(mkRows_mem hp).1, (mkRows_mem (show q ∈ mkRows l by rw [hm]; simp)).1]
  simp only [tab, Bool.and_eq_true, List.all_eq_true, decide_eq_true_eq, Bool.or_eq_true]
  refine ⟨hw, ?_⟩
  cases hm : mkRows l with
  | nil => exact .inl rfl
  | cons q r =>
    refine .inr fun c hc => ⟨(h c hc).1, ?_⟩
    have := hw q (by rw [hm]; simp)
    rw [(mkRows_mem (show q ∈ mkRows l by rw [hm]; simp)).1, hm] at this
    have := (h c hc).2
    omega
theorem winCol_in (kind : Int) (q : B4) : 0 ≤ winCol kind q ∧ winCol kind q < 4 := by unfold winCol; split <;> omega
theorem winBy_len (q : B4) : (winBy q).length ≤ 2 := by rw [winBy, takeC_len]; omega
theorem winOrd_len (q : B4) : (winOrd q).length ≤ 2 := by rw [winOrd, takeC_len]; omega
theorem win_ok {l : List B4} {kind : Int} {q : B4} (h : 1 ≤ kind ∧ kind ≤ 4) : winOk kind (winCol kind q) (winBy q) (winOrd q) (mkRows l) = true := by
  have h1 := winBy_len q
  have h2 := winOrd_len q
  simp only [winOk, Bool.and_eq_true, decide_eq_true_eq]
  refine ⟨⟨⟨h, by omega⟩, by omega⟩, mkRows_tab fun c hc => ?_⟩
  rcases List.mem_cons.1 hc with rfl | hc
  · exact winCol_in kind q
  · rcases List.mem_append.1 hc with hc | hc
    · exact takeC_in _ _ c hc
    · exact takeC_in _ _ c hc

/-- where a row stands: those of its partition that are ahead, and the value -/
theorem comp_at {kd c : Int} {b o : List Int} {R : Rows} (hw : winOk kd c b o R = true) (hk : kd = 1 ∨ kd = 2 ∨ kd = 4) : ∃ D, computeR kd c b o R = (some D, 0) ∧ D.length = R.length ∧
    ∀ x : Int, 0 ≤ x ∧ x < R.length → ∃ A : List Int, A.length < R.length ∧ A = ((sortI R o).filter fun y => decide (gdZ (partI R b) y = gdZ (partI R b) x)).take A.length ∧
      ((sortI R o).filter fun y => decide (gdZ (partI R b) y = gdZ (partI R b) x))[A.length]? = some x ∧ D[x.toNat]? = some (nextS kd c o (A.foldl (stepS kd c o R) St0) (rowP R x)).2.1 := by
  obtain ⟨D, hD⟩ := compF_total (l := R) (part := gdZ (partI R b)) (c := c) (ord := o) (next_ok hk) (sortI R o) (fun _ => St0) (List.replicate R.length zV)
  obtain ⟨h1, _, h3⟩ := compF_some _ _ _ _ hD (sortI_nodup R o) (fun x hx => by rw [List.length_replicate]; exact sortI_in hx)
  rw [List.length_replicate] at h1
  refine ⟨D, ?_, h1, fun x hx => ?_⟩
  · have h3' : ¬ (kd = 3 ∧ (R.any fun p => oddC c p.2) = true) := by rintro ⟨rfl, _⟩; omega
    rw [computeR, if_pos hw, if_neg h3', hD]
  · obtain ⟨k, hk', hkx⟩ := List.getElem_of_mem (sortI_mem (by_ := o) hx)
    have h4 := h3 k hk'
    rw [hkx] at h4
    have hlen := sortI_len R o
    refine ⟨aheadP (gdZ (partI R b)) (sortI R o) k x, ?_, ?_, ?_, h4⟩
    · have := List.length_filter_le (fun y => decide (gdZ (partI R b) y = gdZ (partI R b) x)) ((sortI R o).take k)
      rw [List.length_take] at this
      unfold aheadP; omega
    · exact filter_take
    · have := filter_at (q := fun y => decide (gdZ (partI R b) y = gdZ (partI R b) x)) hk' (by rw [hkx]; simp)
      rw [hkx] at this; exact this
theorem numV_inj {a b : Nat} (ha : a < 1000) (hb : b < 1000) (h : numV (a : Int) = numV (b : Int)) : a = b := by
  have := congrArg Val.i h
  simp only [numV] at this
  rw [wrap_i64 (by omega) (by omega), wrap_i64 (by omega) (by omega)] at this
  omega
theorem num_val {c : Int} {o : List Int} {R : Rows} {A : List Int} {fr : SlF × List Val} (h : A.length < 1000) : (nextS 1 c o (A.foldl (stepS 1 c o R) St0) fr).2.1 = numV ((A.length + 1 : Nat) : Int) := by
  have := fold_n (kd := 1) (c := c) (ord := o) (l := R) A St0 0 rfl (by omega)
  have e : (nextS 1 c o (A.foldl (stepS 1 c o R) St0) fr).2.1 = numV (IntKind.i64.wrap ((A.foldl (stepS 1 c o R) St0).n + 1)) := rfl
  rw [e, this, wrap_i64 (by omega) (by omega)]
  congr 1; omega
theorem lag_val {c : Int} {o : List Int} {R : Rows} {A : List Int} {fr : SlF × List Val} : (nextS 4 c o (A.foldl (stepS 4 c o R) St0) fr).2.1 = match A.getLast? with | some y => colN (rowN R y) c | none => zV := by
  have := fold_last (kd := 4) (c := c) (ord := o) (l := R) A St0
  have e : (nextS 4 c o (A.foldl (stepS 4 c o R) St0) fr).2.1 = lagV (A.foldl (stepS 4 c o R) St0).last c := rfl
  rw [e, this]
  cases A.getLast? <;> rfl

/-- numbers and predecessors -/
theorem lag_law {c c' : Int} {b o : List Int} {R : Rows} (hR : R.length ≤ 300) (hw1 : winOk 1 c b o R = true) (hw4 : winOk 4 c' b o R = true) : ∃ D1 D4, computeR 1 c b o R = (some D1, 0) ∧ computeR 4 c' b o R = (some D4, 0) ∧ D1.length = R.length ∧ D4.length = R.length ∧
    (∀ (i : Nat) (h1 : i < D1.length) (h4 : i < D4.length), D1[i] = numV 1 → D4[i] = zV) ∧
    (∀ (i m : Nat) (h1 : i < D1.length) (h2 : m < D1.length) (h4 : m < D4.length), keyI R b i = keyI R b m → D1[m].i = IntKind.i64.wrap (D1[i].i + 1000000) → D4[m] = colN (rowN R i) c') := by
  obtain ⟨D1, e1, l1, p1⟩ := comp_at hw1 (.inl rfl)
  obtain ⟨D4, e4, l4, p4⟩ := comp_at hw4 (.inr (.inr rfl))
  have both : ∀ (i : Nat) (h1 : i < D1.length) (h4 : i < D4.length), ∃ A : List Int, A.length < R.length ∧ A = ((sortI R o).filter fun y => decide (gdZ (partI R b) y = gdZ (partI R b) (i : Int))).take A.length ∧
      ((sortI R o).filter fun y => decide (gdZ (partI R b) y = gdZ (partI R b) (i : Int)))[A.length]? = some (i : Int) ∧ D1[i] = numV ((A.length + 1 : Nat) : Int) ∧ D4[i] = match A.getLast? with | some y => colN (rowN R y) c' | none => zV := by
    intro i h1 h4
    obtain ⟨A, a1, a2, a3, a4⟩ := p1 i (by omega)
    obtain ⟨B, b1, b2, b3, b4⟩ := p4 i (by omega)
    have hAB : A.length = B.length := by
      have hnd : ((sortI R o).filter fun y => decide (gdZ (partI R b) y = gdZ (partI R b) (i : Int))).Nodup := (sortI_nodup R o).filter _
      obtain ⟨hA, eA⟩ := List.getElem?_eq_some_iff.1 a3
      obtain ⟨hB, eB⟩ := List.getElem?_eq_some_iff.1 b3
      rcases Nat.lt_trichotomy A.length B.length with h | h | h
      · exact absurd (eA.trans eB.symm) (List.pairwise_iff_getElem.1 hnd _ _ hA hB h)
      · exact h
      · exact absurd (eB.trans eA.symm) (List.pairwise_iff_getElem.1 hnd _ _ hB hA h)
    have hAB' : A = B := by rw [a2, b2, hAB]
    subst hAB'
    simp only [Int.toNat_natCast] at a4 b4
    rw [num_val (by omega)] at a4
    rw [lag_val] at b4
    rw [List.getElem?_eq_getElem h1] at a4
    rw [List.getElem?_eq_getElem h4] at b4
    exact ⟨A, a1, a2, a3, Option.some.inj a4, Option.some.inj b4⟩
  refine ⟨D1, D4, e1, e4, l1, l4, fun i h1 h4 hn => ?_, fun i m h1 h2 h4 hk hn => ?_⟩
  · obtain ⟨A, a1, a2, a3, a4, a5⟩ := both i h1 h4
    rw [a4] at hn
    have := numV_inj (a := A.length + 1) (b := 1) (by omega) (by omega) hn
    have hA : A = [] := List.eq_nil_of_length_eq_zero (by omega)
    rw [a5, hA]; rfl
  · obtain ⟨A, a1, a2, a3, a4, a5⟩ := both i h1 (by omega)
    obtain ⟨B, b1, b2, b3, b4, b5⟩ := both m h2 h4
    have hp : gdZ (partI R b) (i : Int) = gdZ (partI R b) (m : Int) := (partI_law (by omega) (by omega)).2 hk
    rw [hp] at a2 a3
    rw [a4, b4] at hn
    simp only [numV] at hn
    rw [wrap_i64 (x := ((A.length + 1 : Nat) : Int) * 1000000) (by omega) (by omega), wrap_i64 (by omega) (by omega), wrap_i64 (by omega) (by omega)] at hn
    have hl : B.length = A.length + 1 := by omega
    rw [b5]
    have hB : B = A ++ [(i : Int)] := by
      rw [b2, hl, List.take_add_one, ← a2, a3]; rfl
    rw [hB, List.getLast?_append]
    rfl
end Go.Abs
/- The plain law of windows: a part of a table as a table of its own. -/
set_option linter.unusedSimpArgs false
set_option linter.unusedVariables false
namespace Go.Abs
open Go

/-- some rows of a table, in their order -/
def subR (R : Rows) (E : List Nat) : Rows := E.map fun i => R.getD i (.nil, [])
def embE (E : List Nat) (x : Int) : Int := ((E.getD x.toNat 0 : Nat) : Int)

section
variable {R : Rows} {E : List Nat}
theorem subR_len : (subR R E).length = E.length := by simp [subR]
theorem subR_row {x : Int} (h : 0 ≤ x ∧ x < E.length) : rowP (subR R E) x = rowP R (embE E x) := by
  unfold rowP subR embE
  have hx : x.toNat < E.length := by omega
  rw [List.getD_eq_getElem?_getD, List.getElem?_map, List.getElem?_eq_getElem hx]
  simp only [Option.map_some, Option.getD_some, Int.toNat_natCast]
  rw [List.getD_eq_getElem?_getD (l := E), List.getElem?_eq_getElem hx]; rfl
theorem embE_in (hE : ∀ i ∈ E, i < R.length) {x : Int} (h : 0 ≤ x ∧ x < E.length) : 0 ≤ embE E x ∧ embE E x < R.length := by
  unfold embE
  have hx : x.toNat < E.length := by omega
  rw [List.getD_eq_getElem?_getD, List.getElem?_eq_getElem hx]
  have := hE _ (List.getElem_mem hx)
  simp only [Option.getD_some]; omega
theorem embE_lt (hs : E.Pairwise (· < ·)) {x y : Int} (hx : 0 ≤ x ∧ x < E.length) (hy : 0 ≤ y ∧ y < E.length) (h : x < y) : embE E x < embE E y := by
  unfold embE
  have h1 : x.toNat < E.length := by omega
  have h2 : y.toNat < E.length := by omega
  rw [List.getD_eq_getElem?_getD, List.getElem?_eq_getElem h1, List.getD_eq_getElem?_getD, List.getElem?_eq_getElem h2]
  have := List.pairwise_iff_getElem.1 hs x.toNat y.toNat h1 h2 (by omega)
  simp only [Option.getD_some]; omega
theorem cmpI_sub (hs : E.Pairwise (· < ·)) {o : List Int} {x y : Int} (hx : 0 ≤ x ∧ x < E.length) (hy : 0 ≤ y ∧ y < E.length) : cmpI (subR R E) o x y = cmpI R o (embE E x) (embE E y) := by
  have e1 : rowN (subR R E) x = rowN R (embE E x) := congrArg Prod.snd (subR_row hx)
  have e2 : rowN (subR R E) y = rowN R (embE E y) := congrArg Prod.snd (subR_row hy)
  have e3 : sgn x y = sgn (embE E x) (embE E y) := by
    unfold sgn
    rcases Int.lt_trichotomy x y with h | h | h
    · have := embE_lt hs hx hy h
      rw [if_pos h, if_pos this]
    · subst h; simp only [Int.lt_irrefl, if_false]
    · have := embE_lt hs hy hx h
      rw [if_neg (by omega), if_pos h, if_neg (by omega), if_pos this]
  simp only [cmpI, e1, e2, e3]

/-- the part's order is that of the table -/
theorem sort_sub (hs : E.Pairwise (· < ·)) (hE : ∀ i ∈ E, i < R.length) {o : List Int} {q : Int → Bool} (hq : ∀ i, i < R.length → (q (i : Int) = true ↔ i ∈ E)) : (sortI (subR R E) o).map (embE E) = (sortI R o).filter q := by
  have hin : ∀ x ∈ sortI (subR R E) o, 0 ≤ x ∧ x < E.length := fun x hx => by
    have := sortI_in hx
    rwa [subR_len] at this
  refine strict_unique (r := ltI R o) (p := fun _ => True) (fun a b _ _ h => (ltI_tot R o (fun _ => True)).asym a b trivial trivial h) (fun _ _ => trivial) (fun x => ?_) ?_ ?_
  · constructor
    · intro hx
      obtain ⟨y, hy, rfl⟩ := List.mem_map.1 hx
      have hy' := hin y hy
      have hb := embE_in hE hy'
      refine List.mem_filter.2 ⟨sortI_mem hb, ?_⟩
      have h2 : y.toNat < E.length := by omega
      have : embE E y = ((E[y.toNat] : Nat) : Int) := by
        unfold embE; rw [List.getD_eq_getElem?_getD, List.getElem?_eq_getElem h2]; rfl
      rw [this]
      exact (hq _ (hE _ (List.getElem_mem h2))).2 (List.getElem_mem h2)
    · intro hx
      obtain ⟨h1, h2⟩ := List.mem_filter.1 hx
      have hb := sortI_in h1
      obtain ⟨n, rfl⟩ := Int.eq_ofNat_of_zero_le hb.1
      have hm := (hq n (by omega)).1 h2
      obtain ⟨j, hj, hjn⟩ := List.getElem_of_mem hm
      refine List.mem_map.2 ⟨(j : Int), sortI_mem (by rw [subR_len]; omega), ?_⟩
      unfold embE
      rw [Int.toNat_natCast, List.getD_eq_getElem?_getD, List.getElem?_eq_getElem hj, hjn]; rfl
  · rw [List.pairwise_map]
    have h1 := sortI_pair (subR R E) o
    have h2 := sortI_nodup (subR R E) o
    refine (List.Pairwise.and_mem.1 (List.Pairwise.and h1 h2)).imp fun {a b} ⟨ha, hb, hab, hne⟩ => ?_
    rw [cmpI_sub hs (hin a ha) (hin b hb)] at hab
    have hz : cmpI R o (embE E a) (embE E b) ≠ 0 := fun h => hne (by
      rw [← cmpI_sub hs (hin a ha) (hin b hb)] at h
      exact cmpI_zero.1 h)
    simp only [ltI, decide_eq_true_eq]; omega
  · have h1 := sortI_pair R o
    have h2 := sortI_nodup R o
    refine ((List.Pairwise.and h1 h2).imp fun {a b} ⟨hab, hne⟩ => ?_).filter q
    have hz : cmpI R o a b ≠ 0 := fun h => hne (cmpI_zero.1 h)
    simp only [ltI, decide_eq_true_eq]; omega
end

theorem compF_iff {kd c : Int} {ord : List Int} {l : Rows} {part : Int → Int} : ∀ (s : List Int) (g : Int → St) (D : List Val),
    (∃ D', compF kd c ord l part g s D = some D') ↔ ∀ (k : Nat) (hk : k < s.length), (nextS kd c ord ((aheadP part s k s[k]).foldl (stepS kd c ord l) (g (part s[k]))) (rowP l s[k])).2.2 = true
  | [], g, D => ⟨fun _ k hk => absurd hk (by simp), fun _ => ⟨D, rfl⟩⟩
  | x :: s, g, D => by
    have key : ∀ (k : Nat) (hk : k < s.length), (aheadP part (x :: s) (k + 1) s[k]).foldl (stepS kd c ord l) (g (part s[k])) = (aheadP part s k s[k]).foldl (stepS kd c ord l) ((fun y => if y = part x then (nextS kd c ord (g (part x)) (rowP l x)).1 else g y) (part s[k])) := by
      intro k hk
      simp only [aheadP, List.take_succ_cons]
      by_cases e : part s[k] = part x
      · rw [List.filter_cons_of_pos (by simp [e])]
        simp only [List.foldl_cons, e, if_true]
      · rw [List.filter_cons_of_neg (by simp; exact fun h => e h.symm), if_neg e]
    constructor
    · rintro ⟨D', h⟩ k hk
      rw [compF] at h
      split at h
      case isFalse => simp at h
      rename_i hok
      have ih := (compF_iff s _ _).1 ⟨D', h⟩
      cases k with
      | zero => simp only [List.getElem_cons_zero, aheadP, List.take_zero, List.filter_nil, List.foldl_nil]; exact hok
      | succ k =>
        have hk' : k < s.length := by simpa using hk
        have := ih k hk'
        rw [← key k hk'] at this
        simpa only [List.getElem_cons_succ] using this
    · intro h
      have h0 := h 0 (by simp)
      simp only [List.getElem_cons_zero, aheadP, List.take_zero, List.filter_nil, List.foldl_nil] at h0
      rw [compF, if_pos h0]
      refine (compF_iff s _ _).2 fun k hk => ?_
      have := h (k + 1) (by simpa using hk)
      simp only [List.getElem_cons_succ] at this
      rw [← key k hk]; exact this

theorem foldl_emb {α : Type} {f f' : α → Int → α} {e : Int → Int} : ∀ (L : List Int) (st : α), (∀ y ∈ L, ∀ st, f' st y = f st (e y)) → L.foldl f' st = (L.map e).foldl f st
  | [], _, _ => rfl
  | y :: L, st, h => by
    rw [List.foldl_cons, List.map_cons, List.foldl_cons, h y (by simp), foldl_emb L _ fun z hz => h z (by simp [hz])]

/-- the values of a partition are those that it has as a table of its own -/
theorem comp_sub {kd c : Int} {b b' o : List Int} {R : Rows} {E : List Nat} {D : List Val} {first : List Val} (hR : computeR kd c b o R = (some D, 0)) (hs : E.Pairwise (· < ·)) (hE : ∀ i, i ∈ E ↔ i < R.length ∧ keyI R b (i : Int) = pickC first b) (hw' : winOk kd c b' o (subR R E) = true)
    (hb' : b' = b ∨ b' = []) : D.length = R.length ∧ computeR kd c b' o (subR R E) = (some (E.map fun i => D.getD i zV), 0) := by
  have hElt : ∀ i ∈ E, i < R.length := fun i hi => ((hE i).1 hi).1
  have hw : winOk kd c b o R = true := by
    cases h : winOk kd c b o R with
    | true => rfl
    | false => rw [computeR, h] at hR; simp at hR
  have hodd : ¬ (kd = 3 ∧ (R.any fun p => oddC c p.2) = true) := fun h => by
    rw [computeR, if_pos hw, if_pos h] at hR; simp at hR
  rw [computeR, if_pos hw, if_neg hodd] at hR
  obtain ⟨D0, hD⟩ : ∃ D0, compF kd c o R (gdZ (partI R b)) (fun _ => St0) (sortI R o) (List.replicate R.length zV) = some D0 := by
    cases h : compF kd c o R (gdZ (partI R b)) (fun _ => St0) (sortI R o) (List.replicate R.length zV) with
    | some D0 => exact ⟨D0, rfl⟩
    | none => rw [h] at hR; simp at hR
  rw [hD] at hR
  obtain rfl : D0 = D := by simpa using hR
  have hok := (compF_iff _ _ _).1 ⟨D0, hD⟩
  obtain ⟨l1, _, h3⟩ := compF_some _ _ _ _ hD (sortI_nodup R o) (fun x hx => by rw [List.length_replicate]; exact sortI_in hx)
  rw [List.length_replicate] at l1
  refine ⟨l1, ?_⟩
  have hq : ∀ i, i < R.length → ((fun y => decide (keyI R b y = pickC first b)) (i : Int) = true ↔ i ∈ E) := fun i hi => by
    simp only [decide_eq_true_eq]
    rw [hE i]; exact ⟨fun h => ⟨hi, h⟩, fun h => h.2⟩
  have hsub := sort_sub (o := o) (q := fun y => decide (keyI R b y = pickC first b)) hs hElt hq
  have hin : ∀ x ∈ sortI (subR R E) o, 0 ≤ x ∧ x < E.length := fun x hx => by
    have := sortI_in hx
    rwa [subR_len] at this
  -- what stands ahead
  have hahead : ∀ (k : Nat) (hk : k < (sortI (subR R E) o).length), ∃ (k2 : Nat) (hk2 : k2 < (sortI R o).length), (sortI R o)[k2] = embE E (sortI (subR R E) o)[k] ∧
      (aheadP (gdZ (partI (subR R E) b')) (sortI (subR R E) o) k (sortI (subR R E) o)[k]).map (embE E) = aheadP (gdZ (partI R b)) (sortI R o) k2 (embE E (sortI (subR R E) o)[k]) := by
    intro k hk
    have hx := hin _ (List.getElem_mem hk)
    have hb := embE_in hElt hx
    obtain ⟨k2, hk2, hk2x⟩ := List.getElem_of_mem (sortI_mem (by_ := o) hb)
    refine ⟨k2, hk2, hk2x, ?_⟩
    -- all rows of the part are of one partition
    have hkey : ∀ y : Int, 0 ≤ y ∧ y < E.length → keyI R b (embE E y) = pickC first b := fun y hy => by
      have h2 : y.toNat < E.length := by omega
      have : embE E y = ((E[y.toNat] : Nat) : Int) := by
        unfold embE; rw [List.getD_eq_getElem?_getD, List.getElem?_eq_getElem h2]; rfl
      rw [this]
      exact ((hE _).1 (List.getElem_mem h2)).2
    have hsame : ∀ y : Int, 0 ≤ y ∧ y < E.length → gdZ (partI (subR R E) b') y = gdZ (partI (subR R E) b') (sortI (subR R E) o)[k] := fun y hy => by
      refine (partI_law (by rw [subR_len]; exact hy) (by rw [subR_len]; exact hx)).2 ?_
      rcases hb' with rfl | rfl
      · have e1 : rowN (subR R E) y = rowN R (embE E y) := congrArg Prod.snd (subR_row hy)
        have e2 : rowN (subR R E) (sortI (subR R E) o)[k] = rowN R (embE E (sortI (subR R E) o)[k]) := congrArg Prod.snd (subR_row hx)
        unfold keyI
        rw [e1, e2]
        exact (hkey y hy).trans (hkey _ hx).symm
      · rfl
    have hall : aheadP (gdZ (partI (subR R E) b')) (sortI (subR R E) o) k (sortI (subR R E) o)[k] = (sortI (subR R E) o).take k := by
      unfold aheadP
      rw [List.filter_eq_self]
      intro y hy
      simp only [decide_eq_true_eq]
      exact hsame y (hin y (List.mem_of_mem_take hy))
    have hfil : aheadP (gdZ (partI R b)) (sortI R o) k2 (embE E (sortI (subR R E) o)[k]) = ((sortI R o).take k2).filter fun y => decide (keyI R b y = pickC first b) := by
      unfold aheadP
      refine List.filter_congr fun y hy => ?_
      have hyb := sortI_in (List.mem_of_mem_take hy)
      refine decide_eq_decide.2 ?_
      rw [partI_law hyb hb, hkey _ hx]
    rw [hall, hfil, List.map_take, hsub]
    rw [filter_take (k := k2)]
    congr 1
    have hat := filter_at (q := fun y => decide (keyI R b y = pickC first b)) hk2 (by rw [hk2x]; simp only [decide_eq_true_eq]; exact hkey _ hx)
    have hat2 : ((sortI R o).filter fun y => decide (keyI R b y = pickC first b))[k]? = some (embE E (sortI (subR R E) o)[k]) := by
      rw [← hsub, List.getElem?_map, List.getElem?_eq_getElem hk]; rfl
    rw [hk2x] at hat
    have hnd : ((sortI R o).filter fun y => decide (keyI R b y = pickC first b)).Nodup := (sortI_nodup R o).filter _
    obtain ⟨hA, eA⟩ := List.getElem?_eq_some_iff.1 hat
    obtain ⟨hB, eB⟩ := List.getElem?_eq_some_iff.1 hat2
    rcases Nat.lt_trichotomy (((sortI R o).take k2).filter fun y => decide (keyI R b y = pickC first b)).length k with h | h | h
    · exact absurd (eA.trans eB.symm) (List.pairwise_iff_getElem.1 hnd _ _ hA hB h)
    · exact h.symm
    · exact absurd (eB.trans eA.symm) (List.pairwise_iff_getElem.1 hnd _ _ hB hA h)
  have hnext : ∀ (k : Nat) (hk : k < (sortI (subR R E) o).length), ∃ (k2 : Nat) (hk2 : k2 < (sortI R o).length), (sortI R o)[k2] = embE E (sortI (subR R E) o)[k] ∧
      nextS kd c o ((aheadP (gdZ (partI (subR R E) b')) (sortI (subR R E) o) k (sortI (subR R E) o)[k]).foldl (stepS kd c o (subR R E)) St0) (rowP (subR R E) (sortI (subR R E) o)[k]) =
        nextS kd c o ((aheadP (gdZ (partI R b)) (sortI R o) k2 (sortI R o)[k2]).foldl (stepS kd c o R) St0) (rowP R (sortI R o)[k2]) := by
    intro k hk
    obtain ⟨k2, hk2, e1, e2⟩ := hahead k hk
    refine ⟨k2, hk2, e1, ?_⟩
    rw [e1, ← e2, subR_row (hin _ (List.getElem_mem hk)), foldl_emb (f := stepS kd c o R) (e := embE E)]
    intro y hy st
    have hy' := hin y (List.mem_of_mem_take (List.mem_filter.1 hy).1)
    unfold stepS
    rw [subR_row hy']
  obtain ⟨D', hD'⟩ := (compF_iff (kd := kd) (c := c) (ord := o) (l := subR R E) (part := gdZ (partI (subR R E) b')) (sortI (subR R E) o) (fun _ => St0) (List.replicate (subR R E).length zV)).2 fun k hk => by
    obtain ⟨k2, hk2, _, e2⟩ := hnext k hk
    rw [e2]; exact hok k2 hk2
  obtain ⟨m1, _, m3⟩ := compF_some _ _ _ _ hD' (sortI_nodup _ o) (fun x hx => by rw [List.length_replicate]; exact sortI_in hx)
  rw [List.length_replicate, subR_len] at m1
  have hodd' : ¬ (kd = 3 ∧ ((subR R E).any fun p => oddC c p.2) = true) := by
    rintro ⟨h1, h2⟩
    refine hodd ⟨h1, ?_⟩
    rw [List.any_eq_true] at h2 ⊢
    obtain ⟨p, hp, hpo⟩ := h2
    simp only [subR, List.mem_map] at hp
    obtain ⟨i, hi, rfl⟩ := hp
    have := hElt i hi
    exact ⟨R[i], List.getElem_mem this, by rw [List.getD_eq_getElem?_getD, List.getElem?_eq_getElem this] at hpo; exact hpo⟩
  rw [computeR, if_pos hw', if_neg hodd', hD']
  have : D' = E.map fun i => D0.getD i zV := by
    apply List.ext_getElem?
    intro j
    rcases Nat.lt_or_ge j E.length with hj | hj
    · obtain ⟨k, hk, hkx⟩ := List.getElem_of_mem (sortI_mem (l := subR R E) (by_ := o) (x := (j : Int)) (by rw [subR_len]; omega))
      obtain ⟨k2, hk2, e1, e2⟩ := hnext k hk
      have a1 := m3 k hk
      have a2 := h3 k2 hk2
      rw [e2, ← Option.some.inj (a2.symm.trans a2)] at a1
      rw [hkx] at a1
      rw [e1, hkx] at a2
      have he : embE E (j : Int) = ((E[j] : Nat) : Int) := by
        unfold embE; rw [Int.toNat_natCast, List.getD_eq_getElem?_getD, List.getElem?_eq_getElem hj]; rfl
      rw [he, Int.toNat_natCast] at a2
      rw [Int.toNat_natCast] at a1
      rw [List.getElem?_map, List.getElem?_eq_getElem hj, a1]
      simp only [Option.map_some, List.getD_eq_getElem?_getD]
      rw [e1, hkx, he] 
      rw [a2]; rfl
    · rw [List.getElem?_eq_none (by omega), List.getElem?_eq_none (by simp; omega)]
  rw [this]
end Go.Abs
/- The plain law of windows: sums of made tables; values are short. -/
set_option linter.unusedSimpArgs false
set_option linter.unusedVariables false
namespace Go.Abs
open Go

theorem nextS_sum {c : Int} {o : List Int} {s : St} {fr : SlF × List Val} : (nextS 3 c o s fr).1.sum.i = s.sum.i ∨ ((nextS 3 c o s fr).1.sum.i = IntKind.i64.wrap (s.sum.i + (colN fr.2 c).i)) := by
  unfold nextS
  dsimp only
  rw [if_neg (by decide), if_neg (by decide), if_neg (by decide)]
  split
  · split
    · exact .inl rfl
    · exact .inr rfl
  · exact .inl rfl
theorem fold_sum {c : Int} {o : List Int} {R : Rows} : ∀ (L : List Int) (st : St) (m : Nat), (∀ y ∈ L, -10000000 ≤ (colN (rowN R y) c).i ∧ (colN (rowN R y) c).i ≤ 10000000) → -10000000 * (m : Int) ≤ st.sum.i → st.sum.i ≤ 10000000 * (m : Int) → m + L.length ≤ 1000 →
    -10000000 * ((m + L.length : Nat) : Int) ≤ (L.foldl (stepS 3 c o R) st).sum.i ∧ (L.foldl (stepS 3 c o R) st).sum.i ≤ 10000000 * ((m + L.length : Nat) : Int)
  | [], st, m, _, h1, h2, _ => by simpa using ⟨h1, h2⟩
  | y :: L, st, m, h, h1, h2, hb => by
    simp only [List.length_cons] at hb
    have hy := h y (by simp)
    have hs := nextS_sum (c := c) (o := o) (s := st) (fr := rowP R y)
    rw [rowP_snd] at hs
    have hw : IntKind.i64.wrap (st.sum.i + (colN (rowN R y) c).i) = st.sum.i + (colN (rowN R y) c).i := wrap_i64 (by omega) (by omega)
    rw [hw] at hs
    have ih := fold_sum (c := c) (o := o) (R := R) L (stepS 3 c o R st y) (m + 1) (fun z hz => h z (by simp [hz])) (by unfold stepS; rcases hs with hs | hs <;> rw [hs] <;> omega) (by unfold stepS; rcases hs with hs | hs <;> rw [hs] <;> omega) (by omega)
    rw [List.foldl_cons, List.length_cons, show m + (L.length + 1) = m + 1 + L.length by omega]
    exact ih
theorem sum_ok {c : Int} {o : List Int} {s : St} {fr : SlF × List Val} (h1 : -1000000000000 ≤ s.sum.i) (h2 : s.sum.i ≤ 1000000000000) (h3 : -10000000 ≤ (colN fr.2 c).i) (h4 : (colN fr.2 c).i ≤ 10000000) : (nextS 3 c o s fr).2.2 = true := by
  have hw : IntKind.i64.wrap (s.sum.i + (colN fr.2 c).i) = s.sum.i + (colN fr.2 c).i := wrap_i64 (by omega) (by omega)
  unfold nextS
  dsimp only
  rw [if_neg (by decide), if_neg (by decide), if_neg (by decide), hw]
  split
  · rw [if_neg (by omega)]
    simp only [Bool.and_eq_true, decide_eq_true_eq]; omega
  · simp only [Bool.and_eq_true, decide_eq_true_eq]; omega

theorem numV_small {n : Int} (h1 : -10 ≤ n) (h2 : n ≤ 10) : -10000000 ≤ (numV n).i ∧ (numV n).i ≤ 10000000 := by
  have : (numV n).i = n * 1000000 := wrap_i64 (by omega) (by omega)
  rw [this]; omega
theorem mkRow_col {k : B4} {c : Int} (hc : c = 0 ∨ c = 1) : ((colN (mkRow k) c).k = 0 ∨ (colN (mkRow k) c).k = 2) ∧ -10000000 ≤ (colN (mkRow k) c).i ∧ (colN (mkRow k) c).i ≤ 10000000 := by
  rcases hc with rfl | rfl
  · have : colN (mkRow k) 0 = numV ((k.1 % 3 : Nat) : Int) := rfl
    rw [this]
    exact ⟨.inr rfl, numV_small (by omega) (by omega)⟩
  · have : colN (mkRow k) 1 = if k.2.1 % 5 = 0 then zV else numV (((k.2.1 % 7 : Nat) : Int) - 2) := rfl
    rw [this]
    split
    · exact ⟨.inl rfl, by decide, by decide⟩
    · exact ⟨.inr rfl, numV_small (by omega) (by omega)⟩
theorem mkRows_row {l : List B4} {x : Int} (h : 0 ≤ x ∧ x < (mkRows l).length) : ∃ k, rowN (mkRows l) x = mkRow k := by
  have := rowN_int h
  have hm : (mkRows l)[x.toNat]'(by omega) ∈ mkRows l := List.getElem_mem _
  simp only [mkRows, List.mem_map] at hm
  obtain ⟨k, _, hk⟩ := hm
  exact ⟨k, by rw [← this]; simp only [mkRows] at hk ⊢; rw [← hk]⟩
theorem winCol3 (q : B4) : winCol 3 q = 0 ∨ winCol 3 q = 1 := by unfold winCol; rw [if_pos rfl]; omega

/-- a window of a made table has its values -/
theorem comp_made {l : List B4} {q : B4} {kind : Int} (h : 1 ≤ kind ∧ kind ≤ 4) : ∃ D, computeR kind (winCol kind q) (winBy q) (winOrd q) (mkRows l) = (some D, 0) ∧ D.length = (mkRows l).length := by
  by_cases hk : kind = 3
  · subst hk
    have hw := win_ok (l := l) (q := q) h
    have hcol : ∀ x : Int, 0 ≤ x ∧ x < (mkRows l).length → (((colN (rowN (mkRows l) x) (winCol 3 q)).k = 0 ∨ (colN (rowN (mkRows l) x) (winCol 3 q)).k = 2) ∧ -10000000 ≤ (colN (rowN (mkRows l) x) (winCol 3 q)).i ∧ (colN (rowN (mkRows l) x) (winCol 3 q)).i ≤ 10000000) := fun x hx => by
      obtain ⟨k, hk⟩ := mkRows_row hx
      have := mkRow_col (k := k) (winCol3 q)
      rw [← hk] at this
      exact this
    have hR3 := (mkRows_fit l).1
    obtain ⟨D, hD⟩ := (compF_iff (kd := 3) (c := winCol 3 q) (ord := winOrd q) (l := mkRows l) (part := gdZ (partI (mkRows l) (winBy q))) (sortI (mkRows l) (winOrd q)) (fun _ => St0) (List.replicate (mkRows l).length zV)).2 fun k hk => by
      have hx := sortI_in (List.getElem_mem hk)
      have hlen := sortI_len (mkRows l) (winOrd q)
      have hA : (aheadP (gdZ (partI (mkRows l) (winBy q))) (sortI (mkRows l) (winOrd q)) k (sortI (mkRows l) (winOrd q))[k]).length ≤ 300 := by
        unfold aheadP
        have := List.length_filter_le (fun y => decide (gdZ (partI (mkRows l) (winBy q)) y = gdZ (partI (mkRows l) (winBy q)) (sortI (mkRows l) (winOrd q))[k])) ((sortI (mkRows l) (winOrd q)).take k)
        rw [List.length_take] at this; omega
      have hs := fold_sum (c := winCol 3 q) (o := winOrd q) (R := mkRows l) (aheadP (gdZ (partI (mkRows l) (winBy q))) (sortI (mkRows l) (winOrd q)) k (sortI (mkRows l) (winOrd q))[k]) St0 0 (fun y hy => (hcol y (sortI_in (List.mem_of_mem_take (List.mem_filter.1 hy).1))).2) (by decide) (by decide) (by omega)
      have hv := (hcol _ hx).2
      exact sum_ok (by omega) (by omega) (by rw [rowP_snd]; exact hv.1) (by rw [rowP_snd]; exact hv.2)
    obtain ⟨h1, _, _⟩ := compF_some _ _ _ _ hD (sortI_nodup _ _) (fun x hx => by rw [List.length_replicate]; exact sortI_in hx)
    rw [List.length_replicate] at h1
    have hodd : ¬ ((3 : Int) = 3 ∧ ((mkRows l).any fun p => oddC (winCol 3 q) p.2) = true) := by
      rintro ⟨_, h⟩
      rw [List.any_eq_true] at h
      obtain ⟨p, hp, ho⟩ := h
      obtain ⟨i, hi, rfl⟩ := List.getElem_of_mem hp
      have := (hcol (i : Int) (by omega)).1
      rw [rowN_get hi] at this
      simp only [oddC, Bool.and_eq_true, Bool.not_eq_true', decide_eq_false_iff_not] at ho
      rcases this with e | e
      · exact ho.1 e
      · exact ho.2 e
    exact ⟨D, by rw [computeR, if_pos hw, if_neg hodd, hD], h1⟩
  · obtain ⟨D, h1, h2, _⟩ := comp_at (win_ok (l := l) (q := q) h) (by omega)
    exact ⟨D, h1, h2⟩

/-! ### Values are short -/
structure StShort (s : St) : Prop where
  sum : s.sum.s = ⟨#[]⟩
  last : ∀ p, s.last = some p → ∀ v ∈ p.2, Short v
theorem short_numV (n : Int) : Short (numV n) := by unfold Short numV; exact (by decide : (⟨#[]⟩ : ByteArray).size < 9223372036854775807)
theorem short_zV : Short zV := by unfold Short zV; exact (by decide : (⟨#[]⟩ : ByteArray).size < 9223372036854775807)
theorem short_col {r : List Val} (h : ∀ v ∈ r, Short v) (c : Int) : Short (colN r c) := by
  unfold colN
  rw [List.getD_eq_getElem?_getD]
  cases hr : r[c.toNat]? with
  | none => exact short_zV
  | some v => exact h v (List.mem_of_getElem? hr)
theorem nextS_short {kd c : Int} {o : List Int} {s : St} {fr : SlF × List Val} (h : StShort s) (hf : ∀ v ∈ fr.2, Short v) : StShort (nextS kd c o s fr).1 ∧ Short (nextS kd c o s fr).2.1 := by
  have hl : ∀ p, (nextS kd c o s fr).1.last = some p → ∀ v ∈ p.2, Short v := fun p hp => by
    rw [nextS_last] at hp
    obtain rfl := Option.some.inj hp
    exact hf
  have hsz : ∀ (k i : Int), Short ⟨k, i, s.sum.s⟩ := fun k i => by
    unfold Short; simp only [h.sum]; exact (by decide : (⟨#[]⟩ : ByteArray).size < 9223372036854775807)
  have hlag : Short (lagV s.last c) := by
    unfold lagV
    split
    · exact short_zV
    · rename_i p hp; exact short_col (h.last p hp) c
  refine ⟨⟨?_, hl⟩, ?_⟩
  · unfold nextS
    dsimp only
    repeat' split
    all_goals exact h.sum
  · unfold nextS
    dsimp only
    repeat' split
    all_goals first | exact short_numV _ | exact short_zV | exact hlag | exact hsz _ _ | exact hsz s.sum.k s.sum.i
theorem fold_short {kd c : Int} {o : List Int} {R : Rows} (hR : ∀ p ∈ R, ∀ v ∈ p.2, Short v) : ∀ (L : List Int) (st : St), StShort st → StShort (L.foldl (stepS kd c o R) st)
  | [], st, h => h
  | y :: L, st, h => by
    rw [List.foldl_cons]
    refine fold_short hR L _ (nextS_short h ?_).1
    rw [rowP_snd]
    unfold rowN
    rw [List.getD_eq_getElem?_getD]
    cases hr : R[y.toNat]? with
    | none => intro v hv; simp at hv
    | some p => exact hR p (List.mem_of_getElem? hr)
theorem comp_short {kd c : Int} {b o : List Int} {R : Rows} {D : List Val} {n : Int} (hR : ∀ p ∈ R, ∀ v ∈ p.2, Short v) (h : computeR kd c b o R = (some D, n)) : D.length = R.length ∧ ∀ v ∈ D, Short v := by
  unfold computeR at h
  split at h
  case isFalse => simp at h
  split at h
  · simp at h
  split at h
  case h_2 => simp at h
  rename_i D0 hD
  obtain rfl : D0 = D := by simpa using (Prod.mk.inj h).1
  obtain ⟨h1, _, h3⟩ := compF_some _ _ _ _ hD (sortI_nodup R o) (fun x hx => by rw [List.length_replicate]; exact sortI_in hx)
  rw [List.length_replicate] at h1
  refine ⟨h1, fun v hv => ?_⟩
  obtain ⟨i, hi, rfl⟩ := List.getElem_of_mem hv
  obtain ⟨k, hk, hkx⟩ := List.getElem_of_mem (sortI_mem (l := R) (by_ := o) (x := (i : Int)) (by omega))
  have h4 := h3 k hk
  rw [hkx, Int.toNat_natCast, List.getElem?_eq_getElem hi] at h4
  rw [Option.some.inj h4]
  refine (nextS_short (fold_short hR _ _ ⟨rfl, fun p hp => by simp [St0] at hp⟩) ?_).2
  rw [rowP_snd, rowN_get (by omega)]
  exact hR _ (List.getElem_mem _)
end Go.Abs
/- Walks of chapter 42: results are compared. -/
set_option linter.unusedSimpArgs false
set_option linter.unusedVariables false
set_option maxRecDepth 100000
set_option maxHeartbeats 4000000
namespace Go.Abs
open Go
attribute [local go_sem_proc] Nat.reduceLT Nat.reduceEqDiff Nat.reduceLeDiff Nat.reduceAdd Nat.reduceSub Nat.reduceMul Int.reduceLT Int.reduceLE Int.reduceEq Int.reduceNeg
attribute [local go_sem_proc ↓] reduceIte

theorem r03_Ints_loop {f g : SlF} {a b : List Int} (ha : Fits a) (hl : a.length = b.length) : ∀ i, i ≤ a.length →
    Run T (Res [.tmp 4] (.bool (decide (a.drop i = b.drop i)))) (.inLoop r03_Ints.b0 :: r03_Ints.k0) (mkE 26 [(0, ints f a), (1, ints g b), (5, .int .i64 i)]) [] := by
  refine up_ind ?_ fun i hi ih => ?_
  · rw [run_round, run_unfold r03_Ints.b0.eq_1]
    simp (maxSteps := 2000000) only [go_sem, run_unfold r03_Ints.c0.eq_1, run_unfold r03_Ints.c1.eq_1, r03_Ints.k0, List.drop_length, show List.drop a.length b = [] by rw [hl]; exact List.drop_length]
  · rw [run_round, run_unfold r03_Ints.b0.eq_1]
    have hb : i < b.length := by omega
    rw [List.drop_eq_getElem_cons hi, List.drop_eq_getElem_cons hb]
    simp only [List.cons.injEq]
    by_cases h : a[i] = b[i]
    · simp (maxSteps := 2000000) only [go_sem, hi, hb, h, wrap_succ (show i < 9223372036854775807 by omega)]
      exact ih
    · simp (maxSteps := 2000000) only [go_sem, hi, hb, h]
theorem r03_Ints_spec {f g : SlF} {a b : List Int} (ha : Fits a) (hb : Fits b) {lv : List Nat} {σ : Sto} {R : Post} : Cw T true i_r03_Ints [ints f a, ints g b] lv σ R ↔ R (.bool (decide (a = b))) σ := by
  refine cw_intro T_r03_Ints (by simp only [go_sem]) (by simp) ?_; rw [run_unfold r03_Ints.main.eq_1]
  by_cases hl : a.length = b.length
  · simp (maxSteps := 2000000) only [go_sem, hl]
    have := r03_Ints_loop (f := f) (g := g) ha hl 0 (by omega)
    simp only [List.drop_zero] at this
    exact this
  · have h1 : ¬ (a.length : Int) = b.length := by omega
    have h2 : a ≠ b := fun e => hl (by rw [e])
    simp (maxSteps := 2000000) only [go_sem, h1, h2]
@[go_sem] theorem r03_Ints_call {f g : SlF} {a b : List Int} (ha : Fits a) (hb : Fits b) {Q : Post3} {k : List Item} {os : List AOper} {d : Option Nat} {e : Env} {σ : Sto} : CallK T Q k os d e σ true i_r03_Ints [ints f a, ints g b] ↔ Run T Q (.ops os :: k) (put e d (.bool (decide (a = b)))) σ := r03_Ints_spec ha hb


theorem r06_SameRows_loop {f g : SlF} {a b : Rows} (ha : RowsFit a) (hb : RowsFit b) (hl : a.length = b.length) : ∀ i, i ≤ a.length →
    Run T (Res [.tmp 4] (.bool (decide ((a.drop i).map Prod.snd = (b.drop i).map Prod.snd)))) (.inLoop r06_SameRows.b0 :: r06_SameRows.k0) (mkE 27 [(0, rowsA f a), (1, rowsA g b), (5, .int .i64 i)]) [] := by
  have ha3 := ha.1
  refine up_ind ?_ fun i hi ih => ?_
  · rw [run_round, run_unfold r06_SameRows.b0.eq_1]
    simp (maxSteps := 2000000) only [go_sem, run_unfold r06_SameRows.c0.eq_1, run_unfold r06_SameRows.c1.eq_1, r06_SameRows.k0, List.drop_length, show List.drop a.length b = [] by rw [hl]; exact List.drop_length]
  · rw [run_round, run_unfold r06_SameRows.b0.eq_1]
    have hbi : i < b.length := by omega
    rw [List.drop_eq_getElem_cons hi, List.drop_eq_getElem_cons hbi]
    simp only [List.map_cons, List.cons.injEq]
    obtain ⟨h1, h2⟩ := ha.2 _ (List.getElem_mem hi)
    obtain ⟨h3, h4⟩ := hb.2 _ (List.getElem_mem hbi)
    have hc := @r06_Same_call a[i].1 b[i].1 a[i].2 b[i].2 h1 h3 h2 h4
    by_cases h : a[i].2 = b[i].2
    · have hd : decide (a[i].2 = b[i].2) = true := by simp [h]
      simp (maxSteps := 2000000) only [go_sem, hi, hbi, hc, hd, eq_true h, true_and, wrap_succ (show i < 9223372036854775807 by omega)]
      exact ih
    · have hd : decide (a[i].2 = b[i].2) = false := by simp [h]
      simp (maxSteps := 2000000) only [go_sem, hi, hbi, hc, hd, eq_false h, false_and]
theorem r06_SameRows_spec {f g : SlF} {a b : Rows} (ha : RowsFit a) (hb : RowsFit b) {lv : List Nat} {σ : Sto} {R : Post} : Cw T true i_r06_SameRows [rowsA f a, rowsA g b] lv σ R ↔ R (.bool (decide (a.map Prod.snd = b.map Prod.snd))) σ := by
  refine cw_intro T_r06_SameRows (by simp only [go_sem]) (by simp) ?_; rw [run_unfold r06_SameRows.main.eq_1]
  by_cases hl : a.length = b.length
  · simp (maxSteps := 2000000) only [go_sem, hl]
    have := r06_SameRows_loop (f := f) (g := g) ha hb hl 0 (by omega)
    simp only [List.drop_zero] at this
    exact this
  · have h1 : ¬ (a.length : Int) = b.length := by omega
    have h2 : ¬ a.map Prod.snd = b.map Prod.snd := fun e => hl (by have := congrArg List.length e; simpa using this)
    simp (maxSteps := 2000000) only [go_sem, h1, h2]
@[go_sem] theorem r06_SameRows_call {f g : SlF} {a b : Rows} (ha : RowsFit a) (hb : RowsFit b) {Q : Post3} {k : List Item} {os : List AOper} {d : Option Nat} {e : Env} {σ : Sto} : CallK T Q k os d e σ true i_r06_SameRows [rowsA f a, rowsA g b] ↔ Run T Q (.ops os :: k) (put e d (.bool (decide (a.map Prod.snd = b.map Prod.snd)))) σ := r06_SameRows_spec ha hb


/-- two results are equal -/
def alikeB (L L' : List Val) (I I' : List Int) (R R' : Rows) (n n' : Int) : Bool := decide (n = n') && decide (L = L') && decide (I = I') && decide (R.map Prod.snd = R'.map Prod.snd)
structure GotFit (L : List Val) (I : List Int) (R : Rows) : Prop where
  l : Fits L
  s : ∀ v ∈ L, Short v
  i : Fits I
  r : RowsFit R
theorem r42_Alike_spec {f1 f2 f3 g1 g2 g3 : SlF} {L L' : List Val} {I I' : List Int} {R1 R2 : Rows} {n n' : Int} (h : GotFit L I R1) (hh : GotFit L' I' R2) {lv : List Nat} {σ : Sto} {R : Post} : Cw T true i_r42_Alike [gotA f1 L f2 I f3 R1 n, gotA g1 L' g2 I' g3 R2 n'] lv σ R ↔ R (.bool (alikeB L L' I I' R1 R2 n n')) σ := by
  refine cw_intro T_r42_Alike (by simp only [go_sem]) (by simp) ?_; rw [run_unfold r42_Alike.main.eq_1]
  unfold alikeB
  have c1 := @r06_Same_call f1 g1 L L' h.l hh.l h.s hh.s
  have c2 := @r03_Ints_call f2 g2 I I' h.i hh.i
  have c3 := @r06_SameRows_call f3 g3 R1 R2 h.r hh.r
  by_cases e1 : n = n'
  case neg => simp (maxSteps := 2000000) only [go_sem, e1]
  cases e2 : decide (L = L')
  case false => simp (maxSteps := 2000000) only [go_sem, e1, c1, e2]
  cases e3 : decide (I = I')
  case false => simp (maxSteps := 2000000) only [go_sem, e1, c1, e2, c2, e3]
  cases e4 : decide (R1.map Prod.snd = R2.map Prod.snd)
  · simp (maxSteps := 2000000) only [go_sem, e1, c1, e2, c2, e3, c3, e4]
  · simp (maxSteps := 2000000) only [go_sem, e1, c1, e2, c2, e3, c3, e4]
@[go_sem] theorem r42_Alike_call {f1 f2 f3 g1 g2 g3 : SlF} {L L' : List Val} {I I' : List Int} {R1 R2 : Rows} {n n' : Int} (h : GotFit L I R1) (hh : GotFit L' I' R2) {Q : Post3} {k : List Item} {os : List AOper} {d : Option Nat} {e : Env} {σ : Sto} : CallK T Q k os d e σ true i_r42_Alike [gotA f1 L f2 I f3 R1 n, gotA g1 L' g2 I' g3 R2 n'] ↔ Run T Q (.ops os :: k) (put e d (.bool (alikeB L L' I I' R1 R2 n n'))) σ := r42_Alike_spec h hh

end Go.Abs
/- Chapter 42's examples answer. -/
set_option linter.unusedSimpArgs false
set_option linter.unusedVariables false
set_option maxRecDepth 100000
namespace Go.Abs
open Go
theorem l42_examples_says : fSays T 400 i_l42_examples [] AVal.isTrue = true := by kernel_rfl
theorem l42_examples_spec {lv : List Nat} {σ : Sto} {R : Post} : Cw T true i_l42_examples [] lv σ R ↔ R (.bool true) σ := cw_true T_l42_examples rfl l42_examples_says
@[go_sem] theorem l42_examples_call {Q : Post3} {k : List Item} {os : List AOper} {d : Option Nat} {e : Env} {σ : Sto} : CallK T Q k os d e σ true i_l42_examples [] ↔ Run T Q (.ops os :: k) (put e d (.bool true)) σ := l42_examples_spec
end Go.Abs
/- Walks of chapter 42: partitions as tables of their own. -/
set_option linter.unusedSimpArgs false
set_option linter.unusedVariables false
set_option maxRecDepth 100000
set_option maxHeartbeats 4000000
namespace Go.Abs
open Go
attribute [local go_sem_proc] Nat.reduceLT Nat.reduceEqDiff Nat.reduceLeDiff Nat.reduceAdd Nat.reduceSub Nat.reduceMul Int.reduceLT Int.reduceLE Int.reduceEq Int.reduceNeg
attribute [local go_sem_proc ↓] reduceIte

abbrev kB (q : B4) : AObj := .cells false [.int .u8 (q.1 : Int), .int .u8 (q.2.1 : Int), .int .u8 (q.2.2.1 : Int), .int .u8 (q.2.2.2 : Int)]
abbrev gotD (f : SlF) (D : List Val) (n : Int) : AObj := .cells false [rowA f D, .nils, .nils, .int .i64 n]
def selP (R : Rows) (b : List Int) (first : List Val) (j : Nat) : Bool := decide (keyI R b (j : Int) = pickC first b)
def selE (R : Rows) (b : List Int) (first : List Val) (i : Nat) : List Nat := (List.range i).filter (selP R b first)
theorem selE_succ (R : Rows) (b : List Int) (first : List Val) (i : Nat) : selE R b first (i + 1) = if selP R b first i = true then selE R b first i ++ [i] else selE R b first i := by
  unfold selE
  rw [List.range_succ, List.filter_append]
  by_cases h : selP R b first i = true
  · rw [if_pos h, List.filter_cons_of_pos h]; rfl
  · rw [if_neg h, List.filter_cons_of_neg h]; simp
theorem selE_mem {R : Rows} {b : List Int} {first : List Val} {i : Nat} : i ∈ selE R b first R.length ↔ i < R.length ∧ keyI R b (i : Int) = pickC first b := by
  simp [selE, selP]
theorem selE_sorted (R : Rows) (b : List Int) (first : List Val) (i : Nat) : (selE R b first i).Pairwise (· < ·) := List.pairwise_lt_range.filter _
theorem selE_len (R : Rows) (b : List Int) (first : List Val) (i : Nat) : (selE R b first i).length ≤ i := by
  have := List.length_filter_le (selP R b first) (List.range i)
  rw [List.length_range] at this; exact this
abbrev frC (p : SlF × List Val) : AVal := sv 3 p.1 (p.2.map fun v => .agg [.int .i64 v.k, .int .i64 v.i, .str v.s])
abbrev partO (R : Rows) (E : List Nat) : AObj := .cells false (E.map fun j => frC (R.getD j (.nil, [])))
abbrev wantO (D : List Val) (E : List Nat) : AObj := .cells false (cellsV (E.map fun j => D.getD j zV))

theorem parts_loop {R : Rows} (hR : RowsFit R) {D : List Val} (hD : D.length = R.length) {kd c : Int} {b o : List Int} {first : List Val} {ff : SlF} {q : B4} (hb : Fits b) (hin : AllIn R b) (hf : InC first b) (hfs : ∀ v ∈ first, Short v)
    (next : Run T (Res [.tmp 6] (.bool true)) [.code l42_WindowPartitions.c0] (mkE 105 [(7, .bool true), (9, .ptr 1 4 0), (12, .ref 3 (selE R b first R.length).length 0 (selE R b first R.length).length 1), (13, .ref 4 ((selE R b first R.length).length * 3) 0 (selE R b first R.length).length 3)])
      [kB q, .cells false (winC kd c .nil b .nil o), gotD .lst D 0, partO R (selE R b first R.length), wantO D (selE R b first R.length)]) : ∀ i, i ≤ R.length →
    Run T (Res [.tmp 6] (.bool true)) (.inLoop l42_WindowPartitions.b0 :: l42_WindowPartitions.k0) (mkE 105 [(7, .bool true), (8, rowsA .lst R), (9, .ptr 1 4 0), (10, .ptr 2 4 0), (11, rowA ff first), (12, .ref 3 (selE R b first i).length 0 (selE R b first i).length 1), (13, .ref 4 ((selE R b first i).length * 3) 0 (selE R b first i).length 3), (14, .int .i64 i)])
      [kB q, .cells false (winC kd c .nil b .nil o), gotD .lst D 0, partO R (selE R b first i), wantO D (selE R b first i)] := by
  have hR3 := hR.1
  refine up_ind ?_ fun i hi ih => ?_
  · rw [run_round, run_unfold l42_WindowPartitions.b0.eq_1]
    simp (maxSteps := 2000000) only [go_sem, l42_WindowPartitions.k0, run_unfold l42_WindowPartitions.c1.eq_1]
    exact next
  · rw [run_round, run_unfold l42_WindowPartitions.b0.eq_1]
    have hiD : i < D.length := by omega
    have f1 := hin _ (List.getElem_mem hi)
    have s1 := (hR.2 _ (List.getElem_mem hi)).2
    have hcall := @r42_Cmp_call R[i].1 ff .nil R[i].2 first b hb f1 hf s1 hfs
    have hm := selE_len R b first i
    have hgR : R.getD i (.nil, []) = R[i] := by rw [List.getD_eq_getElem?_getD, List.getElem?_eq_getElem hi]; rfl
    have hgD : D.getD i zV = D[i] := by rw [List.getD_eq_getElem?_getD, List.getElem?_eq_getElem hiD]; rfl
    have hsel : selP R b first i = decide (pickC R[i].2 b = pickC first b) := by unfold selP keyI; rw [rowN_get hi]
    rw [selE_succ, hsel] at ih
    have hu1 : AVal.namesL (fun o => decide (o < 5)) ((selE R b first i).map fun j => frC (R.getD j (.nil, []))) = true := v_names_map (fun _ => sv_pure) _
    have hu2 : AVal.namesL (fun o => decide (o < 5)) (cellsV ((selE R b first i).map fun j => D.getD j zV)) = true := v_names_flat (fun _ => rfl) _
    generalize selE R b first i = E at ih hm hu1 hu2 ⊢
    by_cases hk : pickC R[i].2 b = pickC first b
    · have hz : cmpR (pickC R[i].2 b) (pickC first b) = 0 := cmpR_zero.2 hk
      rw [if_pos (by simp [hk])] at ih
      have ha1 : appendV 1 24 (.ref 3 E.length 0 E.length 1) (.ref 5 1 0 1 1) [kB q, .cells false (winC kd c .nil b .nil o), gotD .lst D 0, partO R E, wantO D E, .cells false [frC R[i]]] =
          some (.ref 3 (E.length + 1) 0 (E.length + 1) 1, [kB q, .cells false (winC kd c .nil b .nil o), gotD .lst D 0, partO R (E ++ [i]), wantO D E, .cells false [frC R[i]]]) := by
        rw [appendV_push (o := 3) (o' := 5) (nl := false) (nl' := false) (cs := E.map fun j => frC (R.getD j (.nil, []))) (v := frC R[i]) rfl rfl (by simp) sv_one (by simp only [maxBytes]; omega)]
        simp only [partO, List.map_append, List.map_cons, List.map_nil, hgR]; rfl
      have ha2 : ∀ X : AObj, appendV 3 32 (.ref 4 (E.length * 3) 0 E.length 3) (.ref 6 3 0 1 3) [kB q, .cells false (winC kd c .nil b .nil o), gotD .lst D 0, partO R (E ++ [i]), wantO D E, X, .cells false [.int .i64 D[i].k, .int .i64 D[i].i, .str D[i].s]] =
          some (.ref 4 ((E.length + 1) * 3) 0 (E.length + 1) 3, [kB q, .cells false (winC kd c .nil b .nil o), gotD .lst D 0, partO R (E ++ [i]), wantO D (E ++ [i]), X, .cells false [.int .i64 D[i].k, .int .i64 D[i].i, .str D[i].s]]) := by
        intro X
        rw [appendV_grow (m := 1) (nl := false) (cs := cellsV (E.map fun j => D.getD j zV)) (new := [.int .i64 D[i].k, .int .i64 D[i].i, .str D[i].s]) rfl (by simp [rowOf]) (by rw [cellsV_len, List.length_map]) rfl rfl (by decide) rfl (by simp only [maxBytes]; omega)]
        have : E.length * 3 + 1 * 3 = (E.length + 1) * 3 := by omega
        rw [this]
        simp only [wantO, cellsV, List.map_append, List.map_cons, List.map_nil, List.flatMap_append, List.flatMap_cons, List.flatMap_nil, hgD, List.append_nil]; rfl
      have hu1' : AVal.namesL (fun o => decide (o < 5)) ((E ++ [i]).map fun j => frC (R.getD j (.nil, []))) = true := v_names_map (fun _ => sv_pure) _
      have hu2' : AVal.namesL (fun o => decide (o < 5)) (cellsV ((E ++ [i]).map fun j => D.getD j zV)) = true := v_names_flat (fun _ => rfl) _
      have hEl : (E ++ [i]).length = E.length + 1 := by simp
      rw [hEl] at ih
      generalize hE' : E ++ [i] = E' at ih ha1 ha2 hu1' hu2'
      simp (maxSteps := 2000000) only [go_sem, hi, hiD, hcall, hz, ha1, ha2, hu1', hu2', AObj.under, AVal.unders, run_unfold l42_WindowPartitions.c0.eq_1, run_unfold l42_WindowPartitions.c1.eq_1, run_unfold l42_WindowPartitions.c2.eq_1, l42_WindowPartitions.k0, wrap_succ (show i < 9223372036854775807 by omega)]
      exact ih
    · have hz : ¬ cmpR (pickC R[i].2 b) (pickC first b) = 0 := fun h => hk (cmpR_zero.1 h)
      rw [if_neg (by simp [hk])] at ih
      simp (maxSteps := 2000000) only [go_sem, hi, hiD, hcall, hz, hu1, hu2, AObj.under, AVal.unders, run_unfold l42_WindowPartitions.c0.eq_1, run_unfold l42_WindowPartitions.c1.eq_1, run_unfold l42_WindowPartitions.c2.eq_1, l42_WindowPartitions.k0, wrap_succ (show i < 9223372036854775807 by omega)]
      exact ih

theorem deep_vals {n o : Nat} {σ : Sto} {c : List Val} (hσ : σ[o]? = some (.cells false (cellsV c))) : deepA (n + 2) σ (.ref o (c.length * 3) 0 c.length 3) = some (rowA .lst c, σ.set o .dead) := by
  rw [deep_refN hσ (cellsV_len c) rfl (by decide) (v_names_flat (fun _ => rfl) c), chunk_flatMap (k := 3) (g := fun v : Val => [.int .i64 v.k, .int .i64 v.i, .str v.s]) (by decide) (fun _ => rfl)]
  rw [rowA, sv_lst]
theorem deep_part {n o : Nat} {σ : Sto} {R : Rows} {E : List Nat} (hσ : σ[o]? = some (partO R E)) : deepA (n + 2) σ (.ref o E.length 0 E.length 1) = some (rowsA .lst (subR R E), σ.set o .dead) := by
  rw [deep_ones (l := E) (g := fun j => frC (R.getD j (.nil, []))) (fun _ => sv_pure) hσ]
  rw [rowsA, sv_lst, subR, List.map_map]
  rfl
theorem subR_mem {R : Rows} {E : List Nat} (hE : ∀ i ∈ E, i < R.length) {p : SlF × List Val} (h : p ∈ subR R E) : p ∈ R := by
  simp only [subR, List.mem_map] at h
  obtain ⟨i, hi, rfl⟩ := h
  have := hE i hi
  rw [List.getD_eq_getElem?_getD, List.getElem?_eq_getElem this]
  exact List.getElem_mem this
theorem subR_fit {R : Rows} {E : List Nat} (hR : RowsFit R) (hE : ∀ i ∈ E, i < R.length) (hl : E.length ≤ R.length) : RowsFit (subR R E) :=
  ⟨by rw [subR_len]; have := hR.1; omega, fun p hp => hR.2 p (subR_mem hE hp)⟩
theorem tab_subR {R : Rows} {E : List Nat} (hE : ∀ i ∈ E, i < R.length) {cols : List Int} (h : tab R cols = true) : tab (subR R E) cols = true := by
  obtain ⟨h1, h2⟩ := tab_in h
  simp only [tab, Bool.and_eq_true, List.all_eq_true, decide_eq_true_eq, Bool.or_eq_true]
  cases hs : subR R E with
  | nil => exact ⟨fun p hp => by simp at hp, .inl rfl⟩
  | cons x r =>
    have hx : x ∈ R := subR_mem hE (by rw [hs]; simp)
    have hw : wid (x :: r) = wid R := h2 x hx
    refine ⟨fun p hp => ?_, .inr fun c hc => ?_⟩
    · rw [hw]; exact h2 p (subR_mem hE (by rw [hs]; exact hp))
    · rw [hw, ← h2 x hx]; exact h1 x hx c hc
theorem win_sub {R : Rows} {E : List Nat} (hE : ∀ i ∈ E, i < R.length) {kd c : Int} {b b' o : List Int} (hb : b' = b ∨ b' = []) (h : winOk kd c b o R = true) : winOk kd c b' o (subR R E) = true := by
  simp only [winOk, Bool.and_eq_true, decide_eq_true_eq] at h ⊢
  obtain ⟨⟨⟨⟨h1, h2⟩, h3⟩, h4⟩, h5⟩ := h
  refine ⟨⟨⟨⟨h1, h2⟩, ?_⟩, h4⟩, tab_subR hE (tab_sub ?_ h5)⟩
  · rcases hb with rfl | rfl
    · exact h3
    · simp
  · rcases hb with rfl | rfl
    · exact fun c hc => hc
    · intro x hx
      simp only [List.nil_append, List.mem_cons, List.mem_append] at hx ⊢
      rcases hx with h | h
      · exact .inl h
      · exact .inr (.inr h)

theorem l42_WindowPartitions_spec {f : SlF} {l : List B4} {q : B4} {n : Nat} (hl : l.length < 9223372036854775808) (hlb : ∀ k ∈ l, B4Ok k) (hq : B4Ok q) (hn : n < 256) {lv : List Nat} {σ : Sto} {R : Post} : Cw T true i_l42_WindowPartitions [l4A f l, b4A q, .int .u8 (n : Int)] lv σ R ↔ R (.bool true) σ := by
  refine cw_intro T_l42_WindowPartitions (by simp only [go_sem]) (by simp) ?_; rw [run_unfold l42_WindowPartitions.main.eq_1]
  have hfit := mkRows_fit l
  have hfit3 := hfit.1
  have e1 : Int.tmod (n : Int) 4 = ((n % 4 : Nat) : Int) := rfl
  have e2 := conv_lit (a := n % 4) (by omega)
  have e3 : IntKind.i64.wrap (1 + ((n % 4 : Nat) : Int)) = ((1 + n % 4 : Nat) : Int) := by rw [wrap_i64 (by omega) (by omega)]; omega
  have e4 : IntKind.u8.wrap (Int.tdiv (n : Int) 4) = ((n / 4 : Nat) : Int) := wrap_quo (k := 4) hn
  have e5 := conv_lit (a := n / 4) (by omega)
  have e6 : Int.tmod ((n / 4 : Nat) : Int) ((mkRows l).length : Int) = ((n / 4 % (mkRows l).length : Nat) : Int) := rfl
  obtain ⟨D, hD, hDl⟩ := comp_made (l := l) (q := q) (kind := ((1 + n % 4 : Nat) : Int)) (by omega)
  by_cases h0 : (mkRows l).length = 0
  · simp (maxSteps := 2000000) only [go_sem, r42_Rows_call hl hlb, r42_Win_call hq, e1, e2, e3, l42_computed_call hfit, hD, hDl, fnd, Option.getD_some, h0, run_unfold l42_WindowPartitions.c0.eq_1, run_unfold l42_WindowPartitions.c1.eq_1, run_unfold l42_WindowPartitions.c2.eq_1, l42_WindowPartitions.k0]
  · have hpos : 0 < (mkRows l).length := by omega
    have h0' : ¬ ((mkRows l).length : Int) = 0 := by omega
    have hj : n / 4 % (mkRows l).length < (mkRows l).length := Nat.mod_lt _ hpos
    generalize hjj : n / 4 % (mkRows l).length = j at hj e6
    have hwin := win_ok (l := l) (q := q) (kind := ((1 + n % 4 : Nat) : Int)) (by omega)
    have hAb : AllIn (mkRows l) (winBy q) := (tab_in (mkRows_tab (l := l) (takeC_in _ _))).1
    have hFb : Fits (winBy q) := by unfold Fits; have := winBy_len q; omega
    have hf := hAb _ (List.getElem_mem hj)
    have hfs := (hfit.2 _ (List.getElem_mem hj)).2
    have hsd := comp_short (fun p hp => (mkRows_mem hp).2) hD
    generalize hkd : ((1 + n % 4 : Nat) : Int) = kd at *
    generalize hcc : winCol kd q = c at *
    generalize hR : mkRows l = R at *
    generalize hbb : winBy q = b at *
    generalize hoo : winOrd q = o at *
    generalize hfi : R[j].2 = first at hf hfs
    have hEm : ∀ i, i ∈ selE R b first R.length ↔ i < R.length ∧ keyI R b (i : Int) = pickC first b := fun i => selE_mem
    have hElt : ∀ i ∈ selE R b first R.length, i < R.length := fun i hi => ((hEm i).1 hi).1
    have hElen := selE_len R b first R.length
    have hEs := selE_sorted R b first R.length
    have loop := parts_loop (R := R) hfit hDl (kd := kd) (c := c) (b := b) (o := o) (first := first) (ff := R[j].1) (q := q) hFb hAb hf hfs
    generalize selE R b first R.length = E at *
    have c1 := (comp_sub hD hEs hEm (win_sub hElt (.inl rfl) hwin) (.inl rfl)).2
    have c2 := (comp_sub hD hEs hEm (win_sub hElt (.inr rfl) hwin) (.inr rfl)).2
    have hsf := subR_fit hfit hElt hElen
    generalize hwant : (E.map fun i => D.getD i zV) = want at *
    have hwl : want.length = E.length := by rw [← hwant]; simp
    have hws : ∀ v ∈ want, Short v := by
      intro v hv
      rw [← hwant] at hv
      obtain ⟨i, hi, rfl⟩ := List.mem_map.1 hv
      have := hElt i hi
      rw [List.getD_eq_getElem?_getD, List.getElem?_eq_getElem (show i < D.length by omega)]
      exact hsd.2 _ (List.getElem_mem _)
    have hgf : GotFit want [] [] := ⟨by unfold Fits; omega, hws, by unfold Fits; decide, ⟨by decide, fun p hp => by simp at hp⟩⟩
    have hal : ∀ {Q : Post3} {k : List Item} {os : List AOper} {d : Option Nat} {e : Env} {σ : Sto}, CallK T Q k os d e σ true i_r42_Alike [.agg [rowA .lst want, .nils, .nils, .int .i64 0], .agg [rowA .lst want, .nils, .nils, .int .i64 0]] ↔ Run T Q (.ops os :: k) (put e d (.bool true)) σ := by
      intro Q k os d e σ
      have := @r42_Alike_spec .lst .nil .nil .lst .nil .nil want want [] [] [] [] 0 0 hgf hgf [] σ (fun v σ' => Run T Q (.ops os :: k) (put e d v) σ')
      rw [show alikeB want want [] [] [] [] 0 0 = true by simp [alikeB]] at this
      exact this
    have hc1 : ∀ {Q : Post3} {k : List Item} {os : List AOper} {d : Option Nat} {e : Env} {σ : Sto}, CallK T Q k os d e σ true i_l42_computed [rowsA .lst (subR R E), winA kd c .nil b .nil o] ↔ Run T Q (.ops os :: k) (put e d (.agg [rowA .lst want, .nils, .nils, .int .i64 0])) σ := by
      intro Q k os d e σ
      have := @l42_computed_spec .lst .nil .nil (subR R E) kd c b o hsf [] σ (fun v σ' => Run T Q (.ops os :: k) (put e d v) σ')
      rw [c1] at this
      exact this
    have hc2 : ∀ {Q : Post3} {k : List Item} {os : List AOper} {d : Option Nat} {e : Env} {σ : Sto}, CallK T Q k os d e σ true i_l42_computed [rowsA .lst (subR R E), .agg [.int .i64 kd, .int .i64 c, .nils, ints .nil o]] ↔ Run T Q (.ops os :: k) (put e d (.agg [rowA .lst want, .nils, .nils, .int .i64 0])) σ := by
      intro Q k os d e σ
      have := @l42_computed_spec .lst .nil .nil (subR R E) kd c [] o hsf [] σ (fun v σ' => Run T Q (.ops os :: k) (put e d v) σ')
      rw [c2] at this
      exact this
    have hwo : wantO D E = .cells false (cellsV want) := by rw [wantO, hwant]
    have hd1 := fun (σ : Sto) (h : σ[3]? = some (partO R E)) => deep_part (n := 62) h
    have hd2 := fun (σ : Sto) (h : σ[4]? = some (.cells false (cellsV want))) => deep_vals (n := 62) h
    rw [hwl] at hd2
    have hloop := loop (by
      rw [hwo]
      simp (maxSteps := 2000000) only [go_sem, run_unfold l42_WindowPartitions.c0.eq_1, run_unfold l42_WindowPartitions.c1.eq_1, run_unfold l42_WindowPartitions.c2.eq_1, l42_WindowPartitions.k0, hd1, hd2, hc1, hc2, hal]) 0 (by omega)
    have hfi' : R[j].2 = first := hfi
    simp (maxSteps := 2000000) only [go_sem, r42_Rows_call hl hlb, hR, r42_Win_call hq, e1, e2, e3, e4, e5, e6, hcc, hbb, hoo, l42_computed_call hfit, hD, hDl, fnd, Option.getD_some, h0', hj, hfi', run_unfold l42_WindowPartitions.c0.eq_1, run_unfold l42_WindowPartitions.c1.eq_1, run_unfold l42_WindowPartitions.c2.eq_1, l42_WindowPartitions.k0]
    exact hloop
@[go_sem] theorem l42_WindowPartitions_call {f : SlF} {l : List B4} {q : B4} {n : Nat} (hl : l.length < 9223372036854775808) (hlb : ∀ k ∈ l, B4Ok k) (hq : B4Ok q) (hn : n < 256) {Q : Post3} {k : List Item} {os : List AOper} {d : Option Nat} {e : Env} {σ : Sto} : CallK T Q k os d e σ true i_l42_WindowPartitions [l4A f l, b4A q, .int .u8 (n : Int)] ↔ Run T Q (.ops os :: k) (put e d (.bool true)) σ := l42_WindowPartitions_spec hl hlb hq hn

end Go.Abs
