/- Parts of the proof: C42M, C42N, C42EX, C42O. -/
import Derived.Test.YtpclhokdlhcjkaaJC42A
set_option linter.all false
/- The plain law of windows: what the values along an order are. -/
set_option linter.unusedSimpArgs false
set_option linter.unusedVariables false
namespace Go.Abs
open Go

abbrev stepS (kd c : Int) (ord : List Int) (l : Rows) (st : St) (y : Int) : St := (nextS kd c ord st (rowP l y)).1
/-- the rows of the same partition that stand ahead -/
def aheadP (part : Int → Int) (s : List Int) (k : Nat) (x : Int) : List Int := (s.take k).filter fun y => decide (part y = part x)

theorem compF_some {kd c : Int} {ord : List Int} {l : Rows} {part : Int → Int} : ∀ (s : List Int) (g : Int → St) (D D' : List Val), compF kd c ord l part g s D = some D' → s.Nodup → (∀ x ∈ s, 0 ≤ x ∧ x < D.length) →
    D'.length = D.length ∧ (∀ i, (∀ x ∈ s, x.toNat ≠ i) → D'[i]? = D[i]?) ∧
    ∀ (k : Nat) (hk : k < s.length), D'[(s[k]).toNat]? = some (nextS kd c ord ((aheadP part s k s[k]).foldl (stepS kd c ord l) (g (part s[k]))) (rowP l s[k])).2.1
  | [], g, D, D', h, _, _ => by
    simp only [compF, Option.some.injEq] at h
    subst h
    exact ⟨rfl, fun _ _ => rfl, fun k hk => absurd hk (by simp)⟩
  | x :: s, g, D, D', h, hnd, hin => by
    rw [compF] at h
    split at h
    case isFalse => simp at h
    rw [List.nodup_cons] at hnd
    have hx := hin x (by simp)
    obtain ⟨h1, h2, h3⟩ := compF_some s _ _ D' h hnd.2 (fun y hy => by rw [List.length_set]; exact hin y (by simp [hy]))
    rw [List.length_set] at h1
    refine ⟨h1, fun i hi => ?_, fun k hk => ?_⟩
    · rw [h2 i fun y hy => hi y (by simp [hy]), List.getElem?_set, if_neg (hi x (by simp))]
    · cases k with
      | zero =>
        simp only [List.getElem_cons_zero, aheadP, List.take_zero, List.filter_nil, List.foldl_nil]
        rw [h2 x.toNat fun y hy e => hnd.1 (by
          have := hin y (by simp [hy])
          have : y = x := by omega
          rw [← this]; exact hy), List.getElem?_set_self (by omega)]
      | succ k =>
        have hk' : k < s.length := by simpa using hk
        simp only [List.getElem_cons_succ]
        rw [h3 k hk']
        simp only [aheadP, List.take_succ_cons]
        by_cases e : part s[k] = part x
        · rw [List.filter_cons_of_pos (by simp [e])]
          simp only [List.foldl_cons, e, if_true]
        · rw [List.filter_cons_of_neg (by simp; exact fun h => e h.symm)]
          rw [if_neg e]

theorem compF_total {kd c : Int} {ord : List Int} {l : Rows} {part : Int → Int} (hok : ∀ st fr, (nextS kd c ord st fr).2.2 = true) : ∀ (s : List Int) (g : Int → St) (D : List Val), ∃ D', compF kd c ord l part g s D = some D'
  | [], g, D => ⟨D, rfl⟩
  | x :: s, g, D => by
    rw [compF, if_pos (hok _ _)]
    exact compF_total hok s _ _
theorem next_ok {kd c : Int} {ord : List Int} (h : kd = 1 ∨ kd = 2 ∨ kd = 4) (st : St) (fr : SlF × List Val) : (nextS kd c ord st fr).2.2 = true := by
  rcases h with rfl | rfl | rfl <;> rfl

theorem nextS_n {kd c : Int} {ord : List Int} {s : St} {fr : SlF × List Val} : (nextS kd c ord s fr).1.n = IntKind.i64.wrap (s.n + 1) := by
  unfold nextS
  dsimp only
  repeat' split
  all_goals rfl
theorem fold_n {kd c : Int} {ord : List Int} {l : Rows} : ∀ (L : List Int) (st : St) (m : Nat), st.n = m → m + L.length < 1000000 → (L.foldl (stepS kd c ord l) st).n = (m + L.length : Nat)
  | [], st, m, h, _ => by simpa using h
  | y :: L, st, m, h, hb => by
    simp only [List.length_cons] at hb
    rw [List.foldl_cons, fold_n L _ (m + 1) (by rw [stepS, nextS_n, h, wrap_i64 (by omega) (by omega)]; omega) (by omega)]
    simp only [List.length_cons]; omega
theorem fold_last {kd c : Int} {ord : List Int} {l : Rows} : ∀ (L : List Int) (st : St), (L.foldl (stepS kd c ord l) st).last = match L.getLast? with | some y => some (rowP l y) | none => st.last
  | [], st => rfl
  | y :: L, st => by
    rw [List.foldl_cons, fold_last L]
    cases L with
    | nil => simp [stepS, nextS_last]
    | cons z L =>
      rw [List.getLast?_cons_cons, List.getLast?_eq_some_getLast (by simp)]

/-! ### Partitions -/
theorem partFold_law {key : Int → List Val} : ∀ (s : List Int) (n : Int) (prev : Option (List Val)) (D : List Int), s.Nodup → (∀ x ∈ s, 0 ≤ x ∧ x < D.length) → s.Pairwise (fun a b => cmpR (key a) (key b) ≤ 0) → (∀ k0, prev = some k0 → ∀ x ∈ s, cmpR k0 (key x) ≤ 0) →
    (∀ i, (∀ x ∈ s, x.toNat ≠ i) → (partFold key n prev s D)[i]? = D[i]?) ∧
    (∀ x ∈ s, n ≤ gdZ (partFold key n prev s D) x) ∧
    (∀ k0, prev = some k0 → ∀ x ∈ s, (gdZ (partFold key n prev s D) x = n ↔ key x = k0)) ∧
    (∀ x ∈ s, ∀ y ∈ s, (gdZ (partFold key n prev s D) x = gdZ (partFold key n prev s D) y ↔ key x = key y))
  | [], n, prev, D, _, _, _, _ => ⟨fun _ _ => rfl, by simp, by simp, by simp⟩
  | i :: r, n, prev, D, hnd, hin, hso, hpr => by
    rw [List.nodup_cons] at hnd
    rw [List.pairwise_cons] at hso
    have hi := hin i (by simp)
    rw [partFold]
    generalize hn' : (if prev.getD (key i) = key i then n else n + 1) = n'
    obtain ⟨h1, h2, h3, h4⟩ := partFold_law r n' (some (key i)) (D.set i.toNat n') hnd.2 (fun x hx => by rw [List.length_set]; exact hin x (by simp [hx])) hso.2 (fun k0 hk x hx => by obtain rfl := Option.some.inj hk; exact hso.1 x hx)
    generalize partFold key n' (some (key i)) r (D.set i.toNat n') = D' at h1 h2 h3 h4 ⊢
    have hDi : gdZ D' i = n' := by
      unfold gdZ
      rw [List.getD_eq_getElem?_getD, h1 i.toNat fun x hx e => hnd.1 (by
        have := hin x (by simp [hx])
        have : x = i := by omega
        rw [← this]; exact hx), List.getElem?_set_self (by omega)]
      rfl
    have hle : n ≤ n' := by rw [← hn']; split <;> omega
    have hir : ∀ x ∈ r, (gdZ D' x = n' ↔ key x = key i) := h3 _ rfl
    refine ⟨fun j hj => ?_, fun x hx => ?_, fun k0 hk x hx => ?_, fun x hx y hy => ?_⟩
    · rw [h1 j fun x hx => hj x (by simp [hx]), List.getElem?_set, if_neg (hj i (by simp))]
    · rcases List.mem_cons.1 hx with rfl | hx
      · rw [hDi]; exact hle
      · have := h2 x hx; omega
    · subst hk
      simp only [Option.getD_some] at hn'
      have hki := hpr k0 rfl i (by simp)
      rcases List.mem_cons.1 hx with rfl | hx
      · rw [hDi, ← hn']
        constructor
        · intro h
          split at h
          · rename_i e; exact e.symm
          · omega
        · rintro rfl; rw [if_pos rfl]
      · by_cases e : k0 = key i
        · rw [if_pos e] at hn'
          subst hn'
          rw [hir x hx, e]
        · rw [if_neg e] at hn'
          constructor
          · intro h; have := h2 x hx; omega
          · intro h
            exfalso
            have := (cmpR_trans hki (hso.1 x hx)).2 (by rw [h]; exact cmpR_zero.2 rfl)
            exact e (cmpR_zero.1 this.1)
    · rcases List.mem_cons.1 hx with ex | hx' <;> rcases List.mem_cons.1 hy with ey | hy'
      · rw [ex, ey]; simp
      · rw [ex, hDi]
        constructor
        · intro h; exact ((hir y hy').1 h.symm).symm
        · intro h; exact ((hir y hy').2 h.symm).symm
      · rw [ey, hDi]; exact hir x hx'
      · exact h4 x hx' y hy'

theorem sortI_nodup (l : Rows) (by_ : List Int) : (sortI l by_).Nodup := (isort_perm _ _).nodup_iff.2 (upN_nodup _)
theorem sortI_mem {l : Rows} {by_ : List Int} {x : Int} (h : 0 ≤ x ∧ x < l.length) : x ∈ sortI l by_ := by
  refine (isort_mem _).2 ?_
  simp only [upN, List.mem_map, List.mem_range]
  exact ⟨x.toNat, by omega, by omega⟩
theorem sortI_pair (l : Rows) (by_ : List Int) : (sortI l by_).Pairwise (fun a b => cmpI l by_ a b ≤ 0) := by
  have h := isort_sorted (ltI_tot l by_ (fun _ => True)).toOrd3 (D := upN l.length) (fun _ _ => trivial)
  refine h.imp fun {a b} hab => ?_
  simp only [ltI, decide_eq_false_iff_not] at hab
  have := cmpI_anti l by_ b a
  omega
theorem cmpI_key {l : Rows} {by_ : List Int} {a b : Int} (h : cmpI l by_ a b ≤ 0) : cmpR (keyI l by_ a) (keyI l by_ b) ≤ 0 := by
  simp only [cmpI, firstN3] at h
  by_cases e : cmpR (pickC (rowN l a) by_) (pickC (rowN l b) by_) = 0
  · rw [e]; omega
  · rw [if_neg e] at h; exact h
theorem partI_law {l : Rows} {by_ : List Int} {x y : Int} (hx : 0 ≤ x ∧ x < l.length) (hy : 0 ≤ y ∧ y < l.length) : gdZ (partI l by_) x = gdZ (partI l by_) y ↔ keyI l by_ x = keyI l by_ y :=
  (partFold_law (key := keyI l by_) (sortI l by_) 0 none (List.replicate l.length 0) (sortI_nodup l by_) (fun x hx => by rw [List.length_replicate]; exact sortI_in hx) ((sortI_pair l by_).imp cmpI_key) (fun _ h => by simp at h)).2.2.2 x (sortI_mem hx) y (sortI_mem hy)

/-! ### Where a row stands in its partition -/
theorem filter_at {q : Int → Bool} {s : List Int} {k : Nat} (hk : k < s.length) (hq : q s[k] = true) : (s.filter q)[((s.take k).filter q).length]? = some s[k] := by
  have e : s = s.take k ++ s[k] :: s.drop (k + 1) := by rw [← List.drop_eq_getElem_cons hk, List.take_append_drop]
  have : s.filter q = (s.take k).filter q ++ s[k] :: (s.drop (k + 1)).filter q := by
    conv => lhs; rw [e]
    rw [List.filter_append, List.filter_cons_of_pos hq]
  rw [this, List.getElem?_append_right (Nat.le_refl _), Nat.sub_self]; rfl
theorem filter_take {q : Int → Bool} {s : List Int} {k : Nat} : (s.take k).filter q = (s.filter q).take ((s.take k).filter q).length := by
  have : s.filter q = (s.take k).filter q ++ (s.drop k).filter q := by rw [← List.filter_append, List.take_append_drop]
  rw [this, List.take_left']
  rfl
end Go.Abs
/- The plain law of windows: tables that were made; numbers and predecessors. -/
set_option linter.unusedSimpArgs false
set_option linter.unusedVariables false
namespace Go.Abs
open Go

theorem strOf_size (n : Nat) : (strOf n).size ≤ 1 := by unfold strOf; repeat' split
                                                        all_goals decide
theorem mkRow_len (k : B4) : (mkRow k).length = 4 := rfl
theorem mkRow_short (k : B4) : ∀ v ∈ mkRow k, Short v := by
  intro v hv
  have h0 : (⟨#[]⟩ : ByteArray).size = 0 := rfl
  simp only [mkRow, List.mem_cons, List.not_mem_nil, or_false] at hv
  unfold Short
  rcases hv with rfl | rfl | rfl | rfl
  · simp only [numV, h0]; omega
  · split
    · simp only [zV, h0]; omega
    · simp only [numV, h0]; omega
  · have := strOf_size (k.2.2.1 % 3); simp only; omega
  · simp only [h0]; omega
theorem mkRows_len (l : List B4) : (mkRows l).length = min 16 l.length := by simp [mkRows]
theorem mkRows_mem {l : List B4} {p : SlF × List Val} (h : p ∈ mkRows l) : p.2.length = 4 ∧ ∀ v ∈ p.2, Short v := by
  simp only [mkRows, List.mem_map] at h
  obtain ⟨k, _, rfl⟩ := h
  exact ⟨rfl, mkRow_short k⟩
theorem mkRows_fit (l : List B4) : RowsFit (mkRows l) := by
  refine ⟨by rw [mkRows_len]; omega, fun p hp => ⟨?_, (mkRows_mem hp).2⟩⟩
  unfold Fits; rw [(mkRows_mem hp).1]; omega
theorem mkRows_tab {l : List B4} {cols : List Int} (h : ∀ c ∈ cols, 0 ≤ c ∧ c < 4) : tab (mkRows l) cols = true := by
  have hw : ∀ p ∈ mkRows l, p.2.length = wid (mkRows l) := by
    intro p hp
    cases hm : mkRows l with
    | nil => rw [hm] at hp; simp at hp
    | cons q r =>
      simp only [wid]
      rw [(mkRows_mem hp).1, (mkRows_mem (show q ∈ mkRows l by rw [hm]; simp)).1]
  simp only [tab, Bool.and_eq_true, List.all_eq_true, decide_eq_true_eq, Bool.or_eq_true]
  refine ⟨hw, ?_⟩
  cases hm : mkRows l with
  | nil => exact .inl rfl
  | cons q r =>
    refine .inr fun c hc => ⟨(h c hc).1, ?_⟩
    have := hw q (by rw [hm]; simp)
    rw [(mkRows_mem (show q ∈ mkRows l by rw [hm]; simp)).1, hm] at this
    have := (h c hc).2
    omega
theorem winCol_in (kind : Int) (q : B4) : 0 ≤ winCol kind q ∧ winCol kind q < 4 := by unfold winCol; split <;> omega
theorem winBy_len (q : B4) : (winBy q).length ≤ 2 := by rw [winBy, takeC_len]; omega
theorem winOrd_len (q : B4) : (winOrd q).length ≤ 2 := by rw [winOrd, takeC_len]; omega
theorem win_ok {l : List B4} {kind : Int} {q : B4} (h : 1 ≤ kind ∧ kind ≤ 4) : winOk kind (winCol kind q) (winBy q) (winOrd q) (mkRows l) = true := by
  have h1 := winBy_len q
  have h2 := winOrd_len q
  simp only [winOk, Bool.and_eq_true, decide_eq_true_eq]
  refine ⟨⟨⟨h, by omega⟩, by omega⟩, mkRows_tab fun c hc => ?_⟩
  rcases List.mem_cons.1 hc with rfl | hc
  · exact winCol_in kind q
  · rcases List.mem_append.1 hc with hc | hc
    · exact takeC_in _ _ c hc
    · exact takeC_in _ _ c hc

/-- where a row stands: those of its partition that are ahead, and the value -/
theorem comp_at {kd c : Int} {b o : List Int} {R : Rows} (hw : winOk kd c b o R = true) (hk : kd = 1 ∨ kd = 2 ∨ kd = 4) : ∃ D, computeR kd c b o R = (some D, 0) ∧ D.length = R.length ∧
    ∀ x : Int, 0 ≤ x ∧ x < R.length → ∃ A : List Int, A.length < R.length ∧ A = ((sortI R o).filter fun y => decide (gdZ (partI R b) y = gdZ (partI R b) x)).take A.length ∧
      ((sortI R o).filter fun y => decide (gdZ (partI R b) y = gdZ (partI R b) x))[A.length]? = some x ∧ D[x.toNat]? = some (nextS kd c o (A.foldl (stepS kd c o R) St0) (rowP R x)).2.1 := by
  obtain ⟨D, hD⟩ := compF_total (l := R) (part := gdZ (partI R b)) (c := c) (ord := o) (next_ok hk) (sortI R o) (fun _ => St0) (List.replicate R.length zV)
  obtain ⟨h1, _, h3⟩ := compF_some _ _ _ _ hD (sortI_nodup R o) (fun x hx => by rw [List.length_replicate]; exact sortI_in hx)
  rw [List.length_replicate] at h1
  refine ⟨D, ?_, h1, fun x hx => ?_⟩
  · have h3' : ¬ (kd = 3 ∧ (R.any fun p => oddC c p.2) = true) := by rintro ⟨rfl, _⟩; omega
    rw [computeR, if_pos hw, if_neg h3', hD]
  · obtain ⟨k, hk', hkx⟩ := List.getElem_of_mem (sortI_mem (by_ := o) hx)
    have h4 := h3 k hk'
    rw [hkx] at h4
    have hlen := sortI_len R o
    refine ⟨aheadP (gdZ (partI R b)) (sortI R o) k x, ?_, ?_, ?_, h4⟩
    · have := List.length_filter_le (fun y => decide (gdZ (partI R b) y = gdZ (partI R b) x)) ((sortI R o).take k)
      rw [List.length_take] at this
      unfold aheadP; omega
    · exact filter_take
    · have := filter_at (q := fun y => decide (gdZ (partI R b) y = gdZ (partI R b) x)) hk' (by rw [hkx]; simp)
      rw [hkx] at this; exact this
theorem numV_inj {a b : Nat} (ha : a < 1000) (hb : b < 1000) (h : numV (a : Int) = numV (b : Int)) : a = b := by
  have := congrArg Val.i h
  simp only [numV] at this
  rw [wrap_i64 (by omega) (by omega), wrap_i64 (by omega) (by omega)] at this
  omega
theorem num_val {c : Int} {o : List Int} {R : Rows} {A : List Int} {fr : SlF × List Val} (h : A.length < 1000) : (nextS 1 c o (A.foldl (stepS 1 c o R) St0) fr).2.1 = numV ((A.length + 1 : Nat) : Int) := by
  have := fold_n (kd := 1) (c := c) (ord := o) (l := R) A St0 0 rfl (by omega)
  have e : (nextS 1 c o (A.foldl (stepS 1 c o R) St0) fr).2.1 = numV (IntKind.i64.wrap ((A.foldl (stepS 1 c o R) St0).n + 1)) := rfl
  rw [e, this, wrap_i64 (by omega) (by omega)]
  congr 1; omega
theorem lag_val {c : Int} {o : List Int} {R : Rows} {A : List Int} {fr : SlF × List Val} : (nextS 4 c o (A.foldl (stepS 4 c o R) St0) fr).2.1 = match A.getLast? with | some y => colN (rowN R y) c | none => zV := by
  have := fold_last (kd := 4) (c := c) (ord := o) (l := R) A St0
  have e : (nextS 4 c o (A.foldl (stepS 4 c o R) St0) fr).2.1 = lagV (A.foldl (stepS 4 c o R) St0).last c := rfl
  rw [e, this]
  cases A.getLast? <;> rfl

/-- numbers and predecessors -/
theorem lag_law {c c' : Int} {b o : List Int} {R : Rows} (hR : R.length ≤ 300) (hw1 : winOk 1 c b o R = true) (hw4 : winOk 4 c' b o R = true) : ∃ D1 D4, computeR 1 c b o R = (some D1, 0) ∧ computeR 4 c' b o R = (some D4, 0) ∧ D1.length = R.length ∧ D4.length = R.length ∧
    (∀ (i : Nat) (h1 : i < D1.length) (h4 : i < D4.length), D1[i] = numV 1 → D4[i] = zV) ∧
    (∀ (i m : Nat) (h1 : i < D1.length) (h2 : m < D1.length) (h4 : m < D4.length), keyI R b i = keyI R b m → D1[m].i = IntKind.i64.wrap (D1[i].i + 1000000) → D4[m] = colN (rowN R i) c') := by
  obtain ⟨D1, e1, l1, p1⟩ := comp_at hw1 (.inl rfl)
  obtain ⟨D4, e4, l4, p4⟩ := comp_at hw4 (.inr (.inr rfl))
  have both : ∀ (i : Nat) (h1 : i < D1.length) (h4 : i < D4.length), ∃ A : List Int, A.length < R.length ∧ A = ((sortI R o).filter fun y => decide (gdZ (partI R b) y = gdZ (partI R b) (i : Int))).take A.length ∧
      ((sortI R o).filter fun y => decide (gdZ (partI R b) y = gdZ (partI R b) (i : Int)))[A.length]? = some (i : Int) ∧ D1[i] = numV ((A.length + 1 : Nat) : Int) ∧ D4[i] = match A.getLast? with | some y => colN (rowN R y) c' | none => zV := by
    intro i h1 h4
    obtain ⟨A, a1, a2, a3, a4⟩ := p1 i (by omega)
    obtain ⟨B, b1, b2, b3, b4⟩ := p4 i (by omega)
    have hAB : A.length = B.length := by
      have hnd : ((sortI R o).filter fun y => decide (gdZ (partI R b) y = gdZ (partI R b) (i : Int))).Nodup := (sortI_nodup R o).filter _
      obtain ⟨hA, eA⟩ := List.getElem?_eq_some_iff.1 a3
      obtain ⟨hB, eB⟩ := List.getElem?_eq_some_iff.1 b3
      rcases Nat.lt_trichotomy A.length B.length with h | h | h
      · exact absurd (eA.trans eB.symm) (List.pairwise_iff_getElem.1 hnd _ _ hA hB h)
      · exact h
      · exact absurd (eB.trans eA.symm) (List.pairwise_iff_getElem.1 hnd _ _ hB hA h)
    have hAB' : A = B := by rw [a2, b2, hAB]
    subst hAB'
    simp only [Int.toNat_natCast] at a4 b4
    rw [num_val (by omega)] at a4
    rw [lag_val] at b4
    rw [List.getElem?_eq_getElem h1] at a4
    rw [List.getElem?_eq_getElem h4] at b4
    exact ⟨A, a1, a2, a3, Option.some.inj a4, Option.some.inj b4⟩
  refine ⟨D1, D4, e1, e4, l1, l4, fun i h1 h4 hn => ?_, fun i m h1 h2 h4 hk hn => ?_⟩
  · obtain ⟨A, a1, a2, a3, a4, a5⟩ := both i h1 h4
    rw [a4] at hn
    have := numV_inj (a := A.length + 1) (b := 1) (by omega) (by omega) hn
    have hA : A = [] := List.eq_nil_of_length_eq_zero (by omega)
    rw [a5, hA]; rfl
  · obtain ⟨A, a1, a2, a3, a4, a5⟩ := both i h1 (by omega)
    obtain ⟨B, b1, b2, b3, b4, b5⟩ := both m h2 h4
    have hp : gdZ (partI R b) (i : Int) = gdZ (partI R b) (m : Int) := (partI_law (by omega) (by omega)).2 hk
    rw [hp] at a2 a3
    rw [a4, b4] at hn
    simp only [numV] at hn
    rw [wrap_i64 (x := ((A.length + 1 : Nat) : Int) * 1000000) (by omega) (by omega), wrap_i64 (by omega) (by omega), wrap_i64 (by omega) (by omega)] at hn
    have hl : B.length = A.length + 1 := by omega
    rw [b5]
    have hB : B = A ++ [(i : Int)] := by
      rw [b2, hl, List.take_add_one, ← a2, a3]; rfl
    rw [hB, List.getLast?_append]
    rfl
end Go.Abs
/- Chapter 42's examples answer. -/
set_option linter.unusedSimpArgs false
set_option linter.unusedVariables false
set_option maxRecDepth 100000
namespace Go.Abs
open Go
theorem l42_examples_says : fSays T 400 i_l42_examples [] AVal.isTrue = true := by kernel_rfl
theorem l42_examples_spec {lv : List Nat} {σ : Sto} {R : Post} : Cw T true i_l42_examples [] lv σ R ↔ R (.bool true) σ := cw_true T_l42_examples rfl l42_examples_says
@[go_sem] theorem l42_examples_call {Q : Post3} {k : List Item} {os : List AOper} {d : Option Nat} {e : Env} {σ : Sto} : CallK T Q k os d e σ true i_l42_examples [] ↔ Run T Q (.ops os :: k) (put e d (.bool true)) σ := l42_examples_spec
end Go.Abs
/- Walks of chapter 42: predecessors. -/
set_option linter.unusedSimpArgs false
set_option linter.unusedVariables false
set_option maxRecDepth 100000
set_option maxHeartbeats 4000000
namespace Go.Abs
open Go
attribute [local go_sem_proc] Nat.reduceLT Nat.reduceEqDiff Nat.reduceLeDiff Nat.reduceAdd Nat.reduceSub Nat.reduceMul Int.reduceLT Int.reduceLE Int.reduceEq Int.reduceNeg
attribute [local go_sem_proc ↓] reduceIte

abbrev gotC (f : SlF) (D : List Val) (n : Int) : AObj := .cells false [rowA f D, .nils, .nils, .int .i64 n]
theorem numV_one : numV 1 = ⟨2, 1000000, ⟨#[]⟩⟩ := by decide
theorem val_eta (v : Val) : (⟨v.k, v.i, v.s⟩ : Val) = v := rfl

theorem lags_loop1 {R : Rows} (hR : RowsFit R) {D1 D4 : List Val} {c c' : Int} {b o b' o' : List Int} {K : AObj} (h1 : D1.length = R.length) (h4 : D4.length = R.length) (hb : Fits b) (hin : AllIn R b) (hc : ∀ p ∈ R, 0 ≤ c' ∧ c' < p.2.length) {i : Nat} (hi : i < R.length)
    (law : ∀ (m : Nat) (hi1 : i < D1.length) (h2 : m < D1.length) (h4 : m < D4.length), keyI R b i = keyI R b m → D1[m].i = IntKind.i64.wrap (D1[i].i + 1000000) → D4[m] = colN (rowN R i) c')
    (next : Run T (Res [.tmp 4] (.bool true)) (.inLoop l42_WindowLags.b0 :: l42_WindowLags.k0) (mkE 125 [(5, .bool true), (6, rowsA .lst R), (7, .ptr 1 4 0), (8, .ptr 2 4 0), (9, .ptr 3 4 0), (10, .ptr 4 4 0), (11, .int .i64 ((i + 1 : Nat) : Int))]) [K, .cells false (winC 1 c .nil b .nil o), .cells false (winC 4 c' .nil b' .nil o'), gotC .lst D1 0, gotC .lst D4 0]) : ∀ m, m ≤ R.length →
    Run T (Res [.tmp 4] (.bool true)) (.inLoop l42_WindowLags.b1 :: l42_WindowLags.k1) (mkE 125 [(5, .bool true), (6, rowsA .lst R), (7, .ptr 1 4 0), (8, .ptr 2 4 0), (9, .ptr 3 4 0), (10, .ptr 4 4 0), (11, .int .i64 i), (12, .int .i64 m)]) [K, .cells false (winC 1 c .nil b .nil o), .cells false (winC 4 c' .nil b' .nil o'), gotC .lst D1 0, gotC .lst D4 0] := by
  have hR3 := hR.1
  refine up_ind ?_ fun m hm ih => ?_
  · rw [run_round, run_unfold l42_WindowLags.b1.eq_1]
    simp (maxSteps := 2000000) only [go_sem, run_unfold l42_WindowLags.c0.eq_1, run_unfold l42_WindowLags.c1.eq_1, run_unfold l42_WindowLags.c2.eq_1, l42_WindowLags.k0, l42_WindowLags.k1, wrap_succ (show i < 9223372036854775807 by omega)]
    exact next
  · rw [run_round, run_unfold l42_WindowLags.b1.eq_1]
    have hiD : i < D1.length := by omega
    have hmD : m < D1.length := by omega
    have hmD4 : m < D4.length := by omega
    have f1 := hin _ (List.getElem_mem hi)
    have f2 := hin _ (List.getElem_mem hm)
    have s1 := (hR.2 _ (List.getElem_mem hi)).2
    have s2 := (hR.2 _ (List.getElem_mem hm)).2
    have hcc := hc _ (List.getElem_mem hi)
    have hax := fun σ : Sto => @iaddrV_int' 3 R[i].1 Val (fun v => .agg [.int .i64 v.k, .int .i64 v.i, .str v.s]) R[i].2 .i64 c' σ hcc
    rw [colN_get hcc] at hax
    have hl := law m hiD hmD hmD4
    unfold keyI at hl
    rw [rowN_get hi, rowN_get hm] at hl
    have hcall := @r42_Cmp_call R[i].1 R[m].1 .nil R[i].2 R[m].2 b hb f1 f2 s1 s2
    by_cases hk : pickC R[i].2 b = pickC R[m].2 b
    · have hz : cmpR (pickC R[i].2 b) (pickC R[m].2 b) = 0 := cmpR_zero.2 hk
      by_cases hn : D1[m].i = IntKind.i64.wrap (D1[i].i + 1000000)
      · have hv := hl hk hn
        simp (maxSteps := 2000000) only [go_sem, hi, hm, hiD, hmD, hmD4, hcall, hz, hn, hax, hv, run_unfold l42_WindowLags.c0.eq_1, run_unfold l42_WindowLags.c1.eq_1, run_unfold l42_WindowLags.c2.eq_1, l42_WindowLags.k0, l42_WindowLags.k1, wrap_succ (show m < 9223372036854775807 by omega)]
        exact ih
      · simp (maxSteps := 2000000) only [go_sem, hi, hm, hiD, hmD, hmD4, hcall, hz, hn, hax, run_unfold l42_WindowLags.c0.eq_1, run_unfold l42_WindowLags.c1.eq_1, run_unfold l42_WindowLags.c2.eq_1, l42_WindowLags.k0, l42_WindowLags.k1, wrap_succ (show m < 9223372036854775807 by omega)]
        exact ih
    · have hz : ¬ cmpR (pickC R[i].2 b) (pickC R[m].2 b) = 0 := fun h => hk (cmpR_zero.1 h)
      simp (maxSteps := 2000000) only [go_sem, hi, hm, hiD, hmD, hmD4, hcall, hz, hax, run_unfold l42_WindowLags.c0.eq_1, run_unfold l42_WindowLags.c1.eq_1, run_unfold l42_WindowLags.c2.eq_1, l42_WindowLags.k0, l42_WindowLags.k1, wrap_succ (show m < 9223372036854775807 by omega)]
      exact ih

theorem lags_loop0 {R : Rows} (hR : RowsFit R) {D1 D4 : List Val} {c c' : Int} {b o b' o' : List Int} {K : AObj} (h1 : D1.length = R.length) (h4 : D4.length = R.length) (hb : Fits b) (hin : AllIn R b) (hc : ∀ p ∈ R, 0 ≤ c' ∧ c' < p.2.length)
    (law1 : ∀ (i : Nat) (h1 : i < D1.length) (h4 : i < D4.length), D1[i] = numV 1 → D4[i] = zV)
    (law : ∀ (i m : Nat) (hi1 : i < D1.length) (h2 : m < D1.length) (h4 : m < D4.length), keyI R b i = keyI R b m → D1[m].i = IntKind.i64.wrap (D1[i].i + 1000000) → D4[m] = colN (rowN R i) c') : ∀ i, i ≤ R.length →
    Run T (Res [.tmp 4] (.bool true)) (.inLoop l42_WindowLags.b0 :: l42_WindowLags.k0) (mkE 125 [(5, .bool true), (6, rowsA .lst R), (7, .ptr 1 4 0), (8, .ptr 2 4 0), (9, .ptr 3 4 0), (10, .ptr 4 4 0), (11, .int .i64 i)]) [K, .cells false (winC 1 c .nil b .nil o), .cells false (winC 4 c' .nil b' .nil o'), gotC .lst D1 0, gotC .lst D4 0] := by
  have hR3 := hR.1
  refine up_ind ?_ fun i hi ih => ?_
  · rw [run_round, run_unfold l42_WindowLags.b0.eq_1]
    simp (maxSteps := 2000000) only [go_sem, run_unfold l42_WindowLags.c0.eq_1, run_unfold l42_WindowLags.c1.eq_1, run_unfold l42_WindowLags.c2.eq_1, l42_WindowLags.k0, l42_WindowLags.k1]
  · rw [run_round, run_unfold l42_WindowLags.b0.eq_1]
    have hiD : i < D1.length := by omega
    have hiD4 : i < D4.length := by omega
    have hnext := lags_loop1 (K := K) (c := c) (o := o) (b' := b') (o' := o') hR h1 h4 hb hin hc hi (fun m => law i m) ih 0 (by omega)
    have hl1 := law1 i hiD hiD4
    by_cases hk : D1[i] = numV 1
    · have hv := hl1 hk
      simp (maxSteps := 2000000) only [go_sem, hi, hiD, hiD4, hk, hv, run_unfold l42_WindowLags.c0.eq_1, run_unfold l42_WindowLags.c1.eq_1, run_unfold l42_WindowLags.c2.eq_1, l42_WindowLags.k0, l42_WindowLags.k1]
      exact hnext
    · simp (maxSteps := 2000000) only [go_sem, hi, hiD, hiD4, hk, run_unfold l42_WindowLags.c0.eq_1, run_unfold l42_WindowLags.c1.eq_1, run_unfold l42_WindowLags.c2.eq_1, l42_WindowLags.k0, l42_WindowLags.k1]
      exact hnext

theorem l42_WindowLags_spec {f : SlF} {l : List B4} {q : B4} (hl : l.length < 9223372036854775808) (hlb : ∀ k ∈ l, B4Ok k) (hq : B4Ok q) {lv : List Nat} {σ : Sto} {R : Post} : Cw T true i_l42_WindowLags [l4A f l, b4A q] lv σ R ↔ R (.bool true) σ := by
  refine cw_intro T_l42_WindowLags (by simp only [go_sem]) (by simp) ?_; rw [run_unfold l42_WindowLags.main.eq_1]
  have hfit := mkRows_fit l
  obtain ⟨D1, D4, e1, e4, l1, l4, law1, law2⟩ := lag_law (c := winCol 1 q) (c' := winCol 4 q) (b := winBy q) (o := winOrd q) hfit.1 (win_ok (by omega)) (win_ok (by omega))
  have hin : AllIn (mkRows l) (winBy q) := (tab_in (mkRows_tab (l := l) (takeC_in _ _))).1
  have hc : ∀ p ∈ mkRows l, 0 ≤ winCol 4 q ∧ winCol 4 q < p.2.length := fun p hp => by
    rw [(mkRows_mem hp).1]; exact winCol_in 4 q
  have hloop := lags_loop0 (K := .cells false [.int .u8 (q.1 : Int), .int .u8 (q.2.1 : Int), .int .u8 (q.2.2.1 : Int), .int .u8 (q.2.2.2 : Int)]) (c := winCol 1 q) (o := winOrd q) (b' := winBy q) (o' := winOrd q) hfit l1 l4 (show Fits (winBy q) by unfold Fits; have := winBy_len q; omega) hin hc law1 law2 0 (by omega)
  simp (maxSteps := 2000000) only [go_sem, r42_Rows_call hl hlb, r42_Win_call hq, l42_computed_call hfit, e1, e4, l1, l4, fnd, Option.getD_some, run_unfold l42_WindowLags.c0.eq_1, run_unfold l42_WindowLags.c1.eq_1, run_unfold l42_WindowLags.c2.eq_1, l42_WindowLags.k0, l42_WindowLags.k1]
  exact hloop
@[go_sem] theorem l42_WindowLags_call {f : SlF} {l : List B4} {q : B4} (hl : l.length < 9223372036854775808) (hlb : ∀ k ∈ l, B4Ok k) (hq : B4Ok q) {Q : Post3} {k : List Item} {os : List AOper} {d : Option Nat} {e : Env} {σ : Sto} : CallK T Q k os d e σ true i_l42_WindowLags [l4A f l, b4A q] ↔ Run T Q (.ops os :: k) (put e d (.bool true)) σ := l42_WindowLags_spec hl hlb hq

end Go.Abs
