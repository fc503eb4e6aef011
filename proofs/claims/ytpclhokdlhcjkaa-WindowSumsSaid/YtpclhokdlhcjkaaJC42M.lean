/- Parts of the proof: C42M, C42N, C42Q, C42S, C42U, C42EX, C42W, C42X. -/
import Derived.Test.YtpclhokdlhcjkaaJC42A
set_option linter.all false
/- The plain law of windows: what the values along an order are. -/
set_option linter.unusedSimpArgs false
set_option linter.unusedVariables false
namespace Go.Abs
open Go

abbrev stepS (kd c : Int) (ord : List Int) (l : Rows) (st : St) (y : Int) : St := (nextS kd c ord st (rowP l y)).1
def aheadP (part : Int → Int) (s : List Int) (k : Nat) (x : Int) : List Int := (s.take k).filter fun y => decide (part y = part x)

theorem compF_some {kd c : Int} {ord : List Int} {l : Rows} {part : Int → Int} : ∀ (s : List Int) (g : Int → St) (D D' : List Val), compF kd c ord l part g s D = some D' → s.Nodup → (∀ x ∈ s, 0 ≤ x ∧ x < D.length) →
  D'.length = D.length ∧ (∀ i, (∀ x ∈ s, x.toNat ≠ i) → D'[i]? = D[i]?) ∧
  ∀ (k : Nat) (hk : k < s.length), D'[(s[k]).toNat]? = some (nextS kd c ord ((aheadP part s k s[k]).foldl (stepS kd c ord l) (g (part s[k]))) (rowP l s[k])).2.1
 | [], g, D, D', h, _, _ => by
  simp only [compF, Option.some.injEq] at h
  subst h
  exact ⟨rfl, fun _ _ => rfl, fun k hk => absurd hk (by simp)⟩
 | x :: s, g, D, D', h, hnd, hin => by
  rw [compF] at h
  split at h
  case isFalse => simp at h
  rw [List.nodup_cons] at hnd
  have hx := hin x (by simp)
  obtain ⟨h1, h2, h3⟩ := compF_some s _ _ D' h hnd.2 (fun y hy => by rw [List.length_set]; exact hin y (by simp [hy]))
  rw [List.length_set] at h1
  refine ⟨h1, fun i hi => ?_, fun k hk => ?_⟩
  ·rw [h2 i fun y hy => hi y (by simp [hy]), List.getElem?_set, if_neg (hi x (by simp))]
  ·cases k with
   | zero =>
    simp only [List.getElem_cons_zero, aheadP, List.take_zero, List.filter_nil, List.foldl_nil]
    rw [h2 x.toNat fun y hy e => hnd.1 (by
     have := hin y (by simp [hy])
     have : y = x := by omega
     rw [← this]; exact hy), List.getElem?_set_self (by omega)]
   | succ k =>
    have hk' : k < s.length := by simpa using hk
    simp only [List.getElem_cons_succ]
    rw [h3 k hk']
    simp only [aheadP, List.take_succ_cons]
    by_cases e : part s[k] = part x
    ·rw [List.filter_cons_of_pos (by simp [e])]
     simp only [List.foldl_cons, e, if_true]
    ·rw [List.filter_cons_of_neg (by simp; exact fun h => e h.symm)]
     rw [if_neg e]

theorem compF_total {kd c : Int} {ord : List Int} {l : Rows} {part : Int → Int} (hok : ∀ st fr, (nextS kd c ord st fr).2.2 = true) : ∀ (s : List Int) (g : Int → St) (D : List Val), ∃ D', compF kd c ord l part g s D = some D'
 | [], g, D => ⟨D, rfl⟩
 | x :: s, g, D => by
  rw [compF, if_pos (hok _ _)]
  exact compF_total hok s _ _
theorem next_ok {kd c : Int} {ord : List Int} (h : kd = 1 ∨ kd = 2 ∨ kd = 4) (st : St) (fr : SlF × List Val) : (nextS kd c ord st fr).2.2 = true := by
 rcases h with rfl | rfl | rfl <;> rfl

theorem nextS_n {kd c : Int} {ord : List Int} {s : St} {fr : SlF × List Val} : (nextS kd c ord s fr).1.n = IntKind.i64.wrap (s.n + 1) := by
 unfold nextS
 dsimp only
 repeat' split
 all_goals rfl
theorem fold_n {kd c : Int} {ord : List Int} {l : Rows} : ∀ (L : List Int) (st : St) (m : Nat), st.n = m → m + L.length < 1000000 → (L.foldl (stepS kd c ord l) st).n = (m + L.length : Nat)
 | [], st, m, h, _ => by simpa using h
 | y :: L, st, m, h, hb => by
  simp only [List.length_cons] at hb
  rw [List.foldl_cons, fold_n L _ (m + 1) (by rw [stepS, nextS_n, h, wrap_i64 (by omega) (by omega)]; omega) (by omega)]
  simp only [List.length_cons]; omega
theorem fold_last {kd c : Int} {ord : List Int} {l : Rows} : ∀ (L : List Int) (st : St), (L.foldl (stepS kd c ord l) st).last = match L.getLast? with | some y => some (rowP l y) | none => st.last
 | [], st => rfl
 | y :: L, st => by
  rw [List.foldl_cons, fold_last L]
  cases L with
  | nil => simp [stepS, nextS_last]
  | cons z L =>
   rw [List.getLast?_cons_cons, List.getLast?_eq_some_getLast (by simp)]

theorem partFold_law {key : Int → List Val} : ∀ (s : List Int) (n : Int) (prev : Option (List Val)) (D : List Int), s.Nodup → (∀ x ∈ s, 0 ≤ x ∧ x < D.length) → s.Pairwise (fun a b => cmpR (key a) (key b) ≤ 0) → (∀ k0, prev = some k0 → ∀ x ∈ s, cmpR k0 (key x) ≤ 0) →
  (∀ i, (∀ x ∈ s, x.toNat ≠ i) → (partFold key n prev s D)[i]? = D[i]?) ∧
  (∀ x ∈ s, n ≤ gdZ (partFold key n prev s D) x) ∧
  (∀ k0, prev = some k0 → ∀ x ∈ s, (gdZ (partFold key n prev s D) x = n ↔ key x = k0)) ∧
  (∀ x ∈ s, ∀ y ∈ s, (gdZ (partFold key n prev s D) x = gdZ (partFold key n prev s D) y ↔ key x = key y))
 | [], n, prev, D, _, _, _, _ => ⟨fun _ _ => rfl, by simp, by simp, by simp⟩
 | i :: r, n, prev, D, hnd, hin, hso, hpr => by
  rw [List.nodup_cons] at hnd
  rw [List.pairwise_cons] at hso
  have hi := hin i (by simp)
  rw [partFold]
  generalize hn' : (if prev.getD (key i) = key i then n else n + 1) = n'
  obtain ⟨h1, h2, h3, h4⟩ := partFold_law r n' (some (key i)) (D.set i.toNat n') hnd.2 (fun x hx => by rw [List.length_set]; exact hin x (by simp [hx])) hso.2 (fun k0 hk x hx => by obtain rfl := Option.some.inj hk; exact hso.1 x hx)
  generalize partFold key n' (some (key i)) r (D.set i.toNat n') = D' at h1 h2 h3 h4 ⊢
  have hDi : gdZ D' i = n' := by
   unfold gdZ
   rw [List.getD_eq_getElem?_getD, h1 i.toNat fun x hx e => hnd.1 (by
    have := hin x (by simp [hx])
    have : x = i := by omega
    rw [← this]; exact hx), List.getElem?_set_self (by omega)]
   rfl
  have hle : n ≤ n' := by rw [← hn']; split <;> omega
  have hir : ∀ x ∈ r, (gdZ D' x = n' ↔ key x = key i) := h3 _ rfl
  refine ⟨fun j hj => ?_, fun x hx => ?_, fun k0 hk x hx => ?_, fun x hx y hy => ?_⟩
  ·rw [h1 j fun x hx => hj x (by simp [hx]), List.getElem?_set, if_neg (hj i (by simp))]
  ·rcases List.mem_cons.1 hx with rfl | hx
   ·rw [hDi]; exact hle
   ·have := h2 x hx; omega
  ·subst hk
   simp only [Option.getD_some] at hn'
   have hki := hpr k0 rfl i (by simp)
   rcases List.mem_cons.1 hx with rfl | hx
   ·rw [hDi, ← hn']
    constructor
    ·intro h
     split at h
     ·rename_i e; exact e.symm
     ·omega
    ·rintro rfl; rw [if_pos rfl]
   ·by_cases e : k0 = key i
    ·rw [if_pos e] at hn'
     subst hn'
     rw [hir x hx, e]
    ·rw [if_neg e] at hn'
     constructor
     ·intro h; have := h2 x hx; omega
     ·intro h
      exfalso
      have := (cmpR_trans hki (hso.1 x hx)).2 (by rw [h]; exact cmpR_zero.2 rfl)
      exact e (cmpR_zero.1 this.1)
  ·rcases List.mem_cons.1 hx with ex | hx' <;> rcases List.mem_cons.1 hy with ey | hy'
   ·rw [ex, ey]; simp
   ·rw [ex, hDi]
    constructor
    ·intro h; exact ((hir y hy').1 h.symm).symm
    ·intro h; exact ((hir y hy').2 h.symm).symm
   ·rw [ey, hDi]; exact hir x hx'
   ·exact h4 x hx' y hy'

theorem sortI_nodup (l : Rows) (by_ : List Int) : (sortI l by_).Nodup := (isort_perm _ _).nodup_iff.2 (upN_nodup _)
theorem sortI_mem {l : Rows} {by_ : List Int} {x : Int} (h : 0 ≤ x ∧ x < l.length) : x ∈ sortI l by_ := by
 refine (isort_mem _).2 ?_
 simp only [upN, List.mem_map, List.mem_range]
 exact ⟨x.toNat, by omega, by omega⟩
theorem sortI_pair (l : Rows) (by_ : List Int) : (sortI l by_).Pairwise (fun a b => cmpI l by_ a b ≤ 0) := by
 have h := isort_sorted (ltI_tot l by_ (fun _ => True)).toOrd3 (D := upN l.length) (fun _ _ => trivial)
 refine h.imp fun {a b} hab => ?_
 simp only [ltI, decide_eq_false_iff_not] at hab
 have := cmpI_anti l by_ b a
 omega
theorem cmpI_key {l : Rows} {by_ : List Int} {a b : Int} (h : cmpI l by_ a b ≤ 0) : cmpR (keyI l by_ a) (keyI l by_ b) ≤ 0 := by
 simp only [cmpI, firstN3] at h
 by_cases e : cmpR (pickC (rowN l a) by_) (pickC (rowN l b) by_) = 0
 ·rw [e]; omega
 ·rw [if_neg e] at h; exact h
theorem partI_law {l : Rows} {by_ : List Int} {x y : Int} (hx : 0 ≤ x ∧ x < l.length) (hy : 0 ≤ y ∧ y < l.length) : gdZ (partI l by_) x = gdZ (partI l by_) y ↔ keyI l by_ x = keyI l by_ y :=
 (partFold_law (key := keyI l by_) (sortI l by_) 0 none (List.replicate l.length 0) (sortI_nodup l by_) (fun x hx => by rw [List.length_replicate]; exact sortI_in hx) ((sortI_pair l by_).imp cmpI_key) (fun _ h => by simp at h)).2.2.2 x (sortI_mem hx) y (sortI_mem hy)

theorem filter_at {q : Int → Bool} {s : List Int} {k : Nat} (hk : k < s.length) (hq : q s[k] = true) : (s.filter q)[((s.take k).filter q).length]? = some s[k] := by
 have e : s = s.take k ++ s[k] :: s.drop (k + 1) := by rw [← List.drop_eq_getElem_cons hk, List.take_append_drop]
 have : s.filter q = (s.take k).filter q ++ s[k] :: (s.drop (k + 1)).filter q := by
  conv => lhs; rw [e]
  rw [List.filter_append, List.filter_cons_of_pos hq]
 rw [this, List.getElem?_append_right (Nat.le_refl _), Nat.sub_self]; rfl
theorem filter_take {q : Int → Bool} {s : List Int} {k : Nat} : (s.take k).filter q = (s.filter q).take ((s.take k).filter q).length := by
 have : s.filter q = (s.take k).filter q ++ (s.drop k).filter q := by rw [← List.filter_append, List.take_append_drop]
 rw [this, List.take_left']
 rfl
end Go.Abs
/- The plain law of windows: tables that were made; numbers and predecessors. -/
set_option linter.unusedSimpArgs false
set_option linter.unusedVariables false
namespace Go.Abs
open Go

theorem strOf_size (n : Nat) : (strOf n).size ≤ 1 := by unfold strOf; repeat' split
                                                        all_goals decide
theorem mkRow_len (k : B4) : (mkRow k).length = 4 := rfl
theorem mkRow_short (k : B4) : ∀ v ∈ mkRow k, Short v := by
  intro v hv
  have h0 : (⟨#[]⟩ : ByteArray).size = 0 := rfl
  simp only [mkRow, List.mem_cons, List.not_mem_nil, or_false] at hv
  unfold Short
  rcases hv with rfl | rfl | rfl | rfl
  · simp only [numV, h0]; omega
  · split
    · simp only [zV, h0]; omega
    · simp only [numV, h0]; omega
  · have := strOf_size (k.2.2.1 % 3); simp only; omega
  · simp only [h0]; omega
theorem mkRows_len (l : List B4) : (mkRows l).length = min 16 l.length := by simp [mkRows]
theorem mkRows_mem {l : List B4} {p : SlF × List Val} (h : p ∈ mkRows l) : p.2.length = 4 ∧ ∀ v ∈ p.2, Short v := by
  simp only [mkRows, List.mem_map] at h
  obtain ⟨k, _, rfl⟩ := h
  exact ⟨rfl, mkRow_short k⟩
theorem mkRows_fit (l : List B4) : RowsFit (mkRows l) := by
  refine ⟨by rw [mkRows_len]; omega, fun p hp => ⟨?_, (mkRows_mem hp).2⟩⟩
  unfold Fits; rw [(mkRows_mem hp).1]; omega
theorem mkRows_tab {l : List B4} {cols : List Int} (h : ∀ c ∈ cols, 0 ≤ c ∧ c < 4) : tab (mkRows l) cols = true := by
  have hw : ∀ p ∈ mkRows l, p.2.length = wid (mkRows l) := by
    intro p hp
    cases hm : mkRows l with
    | nil => rw [hm] at hp; simp at hp
    | cons q r =>
      simp only [wid]
      rw [(mkRows_mem hp).1, (mkRows_mem (show q ∈ mkRows l by rw [hm]; simp)).1]
  simp only [tab, Bool.and_eq_true, List.all_eq_true, decide_eq_true_eq, Bool.or_eq_true]
  refine ⟨hw, ?_⟩
  cases hm : mkRows l with
  | nil => exact .inl rfl
  | cons q r =>
    refine .inr fun c hc => ⟨(h c hc).1, ?_⟩
    have := hw q (by rw [hm]; simp)
    rw [(mkRows_mem (show q ∈ mkRows l by rw [hm]; simp)).1, hm] at this
    have := (h c hc).2
    omega
theorem winCol_in (kind : Int) (q : B4) : 0 ≤ winCol kind q ∧ winCol kind q < 4 := by unfold winCol; split <;> omega
theorem winBy_len (q : B4) : (winBy q).length ≤ 2 := by rw [winBy, takeC_len]; omega
theorem winOrd_len (q : B4) : (winOrd q).length ≤ 2 := by rw [winOrd, takeC_len]; omega
theorem win_ok {l : List B4} {kind : Int} {q : B4} (h : 1 ≤ kind ∧ kind ≤ 4) : winOk kind (winCol kind q) (winBy q) (winOrd q) (mkRows l) = true := by
  have h1 := winBy_len q
  have h2 := winOrd_len q
  simp only [winOk, Bool.and_eq_true, decide_eq_true_eq]
  refine ⟨⟨⟨h, by omega⟩, by omega⟩, mkRows_tab fun c hc => ?_⟩
  rcases List.mem_cons.1 hc with rfl | hc
  · exact winCol_in kind q
  · rcases List.mem_append.1 hc with hc | hc
    · exact takeC_in _ _ c hc
    · exact takeC_in _ _ c hc

theorem comp_at {kd c : Int} {b o : List Int} {R : Rows} (hw : winOk kd c b o R = true) (hk : kd = 1 ∨ kd = 2 ∨ kd = 4) : ∃ D, computeR kd c b o R = (some D, 0) ∧ D.length = R.length ∧
    ∀ x : Int, 0 ≤ x ∧ x < R.length → ∃ A : List Int, A.length < R.length ∧ A = ((sortI R o).filter fun y => decide (gdZ (partI R b) y = gdZ (partI R b) x)).take A.length ∧
      ((sortI R o).filter fun y => decide (gdZ (partI R b) y = gdZ (partI R b) x))[A.length]? = some x ∧ D[x.toNat]? = some (nextS kd c o (A.foldl (stepS kd c o R) St0) (rowP R x)).2.1 := by
  obtain ⟨D, hD⟩ := compF_total (l := R) (part := gdZ (partI R b)) (c := c) (ord := o) (next_ok hk) (sortI R o) (fun _ => St0) (List.replicate R.length zV)
  obtain ⟨h1, _, h3⟩ := compF_some _ _ _ _ hD (sortI_nodup R o) (fun x hx => by rw [List.length_replicate]; exact sortI_in hx)
  rw [List.length_replicate] at h1
  refine ⟨D, ?_, h1, fun x hx => ?_⟩
  · have h3' : ¬ (kd = 3 ∧ (R.any fun p => oddC c p.2) = true) := by rintro ⟨rfl, _⟩; omega
    rw [computeR, if_pos hw, if_neg h3', hD]
  · obtain ⟨k, hk', hkx⟩ := List.getElem_of_mem (sortI_mem (by_ := o) hx)
    have h4 := h3 k hk'
    rw [hkx] at h4
    have hlen := sortI_len R o
    refine ⟨aheadP (gdZ (partI R b)) (sortI R o) k x, ?_, ?_, ?_, h4⟩
    · have := List.length_filter_le (fun y => decide (gdZ (partI R b) y = gdZ (partI R b) x)) ((sortI R o).take k)
      rw [List.length_take] at this
      unfold aheadP; omega
    · exact filter_take
    · have := filter_at (q := fun y => decide (gdZ (partI R b) y = gdZ (partI R b) x)) hk' (by rw [hkx]; simp)
      rw [hkx] at this; exact this
theorem numV_inj {a b : Nat} (ha : a < 1000) (hb : b < 1000) (h : numV (a : Int) = numV (b : Int)) : a = b := by
  have := congrArg Val.i h
  simp only [numV] at this
  rw [wrap_i64 (by omega) (by omega), wrap_i64 (by omega) (by omega)] at this
  omega
theorem num_val {c : Int} {o : List Int} {R : Rows} {A : List Int} {fr : SlF × List Val} (h : A.length < 1000) : (nextS 1 c o (A.foldl (stepS 1 c o R) St0) fr).2.1 = numV ((A.length + 1 : Nat) : Int) := by
  have := fold_n (kd := 1) (c := c) (ord := o) (l := R) A St0 0 rfl (by omega)
  have e : (nextS 1 c o (A.foldl (stepS 1 c o R) St0) fr).2.1 = numV (IntKind.i64.wrap ((A.foldl (stepS 1 c o R) St0).n + 1)) := rfl
  rw [e, this, wrap_i64 (by omega) (by omega)]
  congr 1; omega
theorem lag_val {c : Int} {o : List Int} {R : Rows} {A : List Int} {fr : SlF × List Val} : (nextS 4 c o (A.foldl (stepS 4 c o R) St0) fr).2.1 = match A.getLast? with | some y => colN (rowN R y) c | none => zV := by
  have := fold_last (kd := 4) (c := c) (ord := o) (l := R) A St0
  have e : (nextS 4 c o (A.foldl (stepS 4 c o R) St0) fr).2.1 = lagV (A.foldl (stepS 4 c o R) St0).last c := rfl
  rw [e, this]
  cases A.getLast? <;> rfl

theorem lag_law {c c' : Int} {b o : List Int} {R : Rows} (hR : R.length ≤ 300) (hw1 : winOk 1 c b o R = true) (hw4 : winOk 4 c' b o R = true) : ∃ D1 D4, computeR 1 c b o R = (some D1, 0) ∧ computeR 4 c' b o R = (some D4, 0) ∧ D1.length = R.length ∧ D4.length = R.length ∧
    (∀ (i : Nat) (h1 : i < D1.length) (h4 : i < D4.length), D1[i] = numV 1 → D4[i] = zV) ∧
    (∀ (i m : Nat) (h1 : i < D1.length) (h2 : m < D1.length) (h4 : m < D4.length), keyI R b i = keyI R b m → D1[m].i = IntKind.i64.wrap (D1[i].i + 1000000) → D4[m] = colN (rowN R i) c') := by
  obtain ⟨D1, e1, l1, p1⟩ := comp_at hw1 (.inl rfl)
  obtain ⟨D4, e4, l4, p4⟩ := comp_at hw4 (.inr (.inr rfl))
  have both : ∀ (i : Nat) (h1 : i < D1.length) (h4 : i < D4.length), ∃ A : List Int, A.length < R.length ∧ A = ((sortI R o).filter fun y => decide (gdZ (partI R b) y = gdZ (partI R b) (i : Int))).take A.length ∧
      ((sortI R o).filter fun y => decide (gdZ (partI R b) y = gdZ (partI R b) (i : Int)))[A.length]? = some (i : Int) ∧ D1[i] = numV ((A.length + 1 : Nat) : Int) ∧ D4[i] = match A.getLast? with | some y => colN (rowN R y) c' | none => zV := by
    intro i h1 h4
    obtain ⟨A, a1, a2, a3, a4⟩ := p1 i (by omega)
    obtain ⟨B, b1, b2, b3, b4⟩ := p4 i (by omega)
    have hAB : A.length = B.length := by
      have hnd : ((sortI R o).filter fun y => decide (gdZ (partI R b) y = gdZ (partI R b) (i : Int))).Nodup := (sortI_nodup R o).filter _
      obtain ⟨hA, eA⟩ := List.getElem?_eq_some_iff.1 a3
      obtain ⟨hB, eB⟩ := List.getElem?_eq_some_iff.1 b3
      rcases Nat.lt_trichotomy A.length B.length with h | h | h
      · exact absurd (eA.trans eB.symm) (List.pairwise_iff_getElem.1 hnd _ _ hA hB h)
      · exact h
      · exact absurd (eB.trans eA.symm) (List.pairwise_iff_getElem.1 hnd _ _ hB hA h)
    have hAB' : A = B := by rw [a2, b2, hAB]
    subst hAB'
    simp only [Int.toNat_natCast] at a4 b4
    rw [num_val (by omega)] at a4
    rw [lag_val] at b4
    rw [List.getElem?_eq_getElem h1] at a4
    rw [List.getElem?_eq_getElem h4] at b4
    exact ⟨A, a1, a2, a3, Option.some.inj a4, Option.some.inj b4⟩
  refine ⟨D1, D4, e1, e4, l1, l4, fun i h1 h4 hn => ?_, fun i m h1 h2 h4 hk hn => ?_⟩
  · obtain ⟨A, a1, a2, a3, a4, a5⟩ := both i h1 h4
    rw [a4] at hn
    have := numV_inj (a := A.length + 1) (b := 1) (by omega) (by omega) hn
    have hA : A = [] := List.eq_nil_of_length_eq_zero (by omega)
    rw [a5, hA]; rfl
  · obtain ⟨A, a1, a2, a3, a4, a5⟩ := both i h1 (by omega)
    obtain ⟨B, b1, b2, b3, b4, b5⟩ := both m h2 h4
    have hp : gdZ (partI R b) (i : Int) = gdZ (partI R b) (m : Int) := (partI_law (by omega) (by omega)).2 hk
    rw [hp] at a2 a3
    rw [a4, b4] at hn
    simp only [numV] at hn
    rw [wrap_i64 (x := ((A.length + 1 : Nat) : Int) * 1000000) (by omega) (by omega), wrap_i64 (by omega) (by omega), wrap_i64 (by omega) (by omega)] at hn
    have hl : B.length = A.length + 1 := by omega
    rw [b5]
    have hB : B = A ++ [(i : Int)] := by
      rw [b2, hl, List.take_add_one, ← a2, a3]; rfl
    rw [hB, List.getLast?_append]
    rfl
end Go.Abs
/- The plain law of windows: a part of a table as a table of its own. -/
set_option linter.unusedSimpArgs false
set_option linter.unusedVariables false
namespace Go.Abs
open Go

def subR (R : Rows) (E : List Nat) : Rows := E.map fun i => R.getD i (.nil, [])
def embE (E : List Nat) (x : Int) : Int := ((E.getD x.toNat 0 : Nat) : Int)

section
variable {R : Rows} {E : List Nat}
theorem subR_len : (subR R E).length = E.length := by simp [subR]
theorem subR_row {x : Int} (h : 0 ≤ x ∧ x < E.length) : rowP (subR R E) x = rowP R (embE E x) := by
 unfold rowP subR embE
 have hx : x.toNat < E.length := by omega
 rw [List.getD_eq_getElem?_getD, List.getElem?_map, List.getElem?_eq_getElem hx]
 simp only [Option.map_some, Option.getD_some, Int.toNat_natCast]
 rw [List.getD_eq_getElem?_getD (l := E), List.getElem?_eq_getElem hx]; rfl
theorem embE_in (hE : ∀ i ∈ E, i < R.length) {x : Int} (h : 0 ≤ x ∧ x < E.length) : 0 ≤ embE E x ∧ embE E x < R.length := by
 unfold embE
 have hx : x.toNat < E.length := by omega
 rw [List.getD_eq_getElem?_getD, List.getElem?_eq_getElem hx]
 have := hE _ (List.getElem_mem hx)
 simp only [Option.getD_some]; omega
theorem embE_lt (hs : E.Pairwise (· < ·)) {x y : Int} (hx : 0 ≤ x ∧ x < E.length) (hy : 0 ≤ y ∧ y < E.length) (h : x < y) : embE E x < embE E y := by
 unfold embE
 have h1 : x.toNat < E.length := by omega
 have h2 : y.toNat < E.length := by omega
 rw [List.getD_eq_getElem?_getD, List.getElem?_eq_getElem h1, List.getD_eq_getElem?_getD, List.getElem?_eq_getElem h2]
 have := List.pairwise_iff_getElem.1 hs x.toNat y.toNat h1 h2 (by omega)
 simp only [Option.getD_some]; omega
theorem cmpI_sub (hs : E.Pairwise (· < ·)) {o : List Int} {x y : Int} (hx : 0 ≤ x ∧ x < E.length) (hy : 0 ≤ y ∧ y < E.length) : cmpI (subR R E) o x y = cmpI R o (embE E x) (embE E y) := by
 have e1 : rowN (subR R E) x = rowN R (embE E x) := congrArg Prod.snd (subR_row hx)
 have e2 : rowN (subR R E) y = rowN R (embE E y) := congrArg Prod.snd (subR_row hy)
 have e3 : sgn x y = sgn (embE E x) (embE E y) := by
  unfold sgn
  rcases Int.lt_trichotomy x y with h | h | h
  ·have := embE_lt hs hx hy h
   rw [if_pos h, if_pos this]
  ·subst h; simp only [Int.lt_irrefl, if_false]
  ·have := embE_lt hs hy hx h
   rw [if_neg (by omega), if_pos h, if_neg (by omega), if_pos this]
 simp only [cmpI, e1, e2, e3]

theorem sort_sub (hs : E.Pairwise (· < ·)) (hE : ∀ i ∈ E, i < R.length) {o : List Int} {q : Int → Bool} (hq : ∀ i, i < R.length → (q (i : Int) = true ↔ i ∈ E)) : (sortI (subR R E) o).map (embE E) = (sortI R o).filter q := by
 have hin : ∀ x ∈ sortI (subR R E) o, 0 ≤ x ∧ x < E.length := fun x hx => by
  have := sortI_in hx
  rwa [subR_len] at this
 refine strict_unique (r := ltI R o) (p := fun _ => True) (fun a b _ _ h => (ltI_tot R o (fun _ => True)).asym a b trivial trivial h) (fun _ _ => trivial) (fun x => ?_) ?_ ?_
 ·constructor
  ·intro hx
   obtain ⟨y, hy, rfl⟩ := List.mem_map.1 hx
   have hy' := hin y hy
   have hb := embE_in hE hy'
   refine List.mem_filter.2 ⟨sortI_mem hb, ?_⟩
   have h2 : y.toNat < E.length := by omega
   have : embE E y = ((E[y.toNat] : Nat) : Int) := by
    unfold embE; rw [List.getD_eq_getElem?_getD, List.getElem?_eq_getElem h2]; rfl
   rw [this]
   exact (hq _ (hE _ (List.getElem_mem h2))).2 (List.getElem_mem h2)
  ·intro hx
   obtain ⟨h1, h2⟩ := List.mem_filter.1 hx
   have hb := sortI_in h1
   obtain ⟨n, rfl⟩ := Int.eq_ofNat_of_zero_le hb.1
   have hm := (hq n (by omega)).1 h2
   obtain ⟨j, hj, hjn⟩ := List.getElem_of_mem hm
   refine List.mem_map.2 ⟨(j : Int), sortI_mem (by rw [subR_len]; omega), ?_⟩
   unfold embE
   rw [Int.toNat_natCast, List.getD_eq_getElem?_getD, List.getElem?_eq_getElem hj, hjn]; rfl
 ·rw [List.pairwise_map]
  have h1 := sortI_pair (subR R E) o
  have h2 := sortI_nodup (subR R E) o
  refine (List.Pairwise.and_mem.1 (List.Pairwise.and h1 h2)).imp fun {a b} ⟨ha, hb, hab, hne⟩ => ?_
  rw [cmpI_sub hs (hin a ha) (hin b hb)] at hab
  have hz : cmpI R o (embE E a) (embE E b) ≠ 0 := fun h => hne (by
   rw [← cmpI_sub hs (hin a ha) (hin b hb)] at h
   exact cmpI_zero.1 h)
  simp only [ltI, decide_eq_true_eq]; omega
 ·have h1 := sortI_pair R o
  have h2 := sortI_nodup R o
  refine ((List.Pairwise.and h1 h2).imp fun {a b} ⟨hab, hne⟩ => ?_).filter q
  have hz : cmpI R o a b ≠ 0 := fun h => hne (cmpI_zero.1 h)
  simp only [ltI, decide_eq_true_eq]; omega
end

theorem compF_iff {kd c : Int} {ord : List Int} {l : Rows} {part : Int → Int} : ∀ (s : List Int) (g : Int → St) (D : List Val),
  (∃ D', compF kd c ord l part g s D = some D') ↔ ∀ (k : Nat) (hk : k < s.length), (nextS kd c ord ((aheadP part s k s[k]).foldl (stepS kd c ord l) (g (part s[k]))) (rowP l s[k])).2.2 = true
 | [], g, D => ⟨fun _ k hk => absurd hk (by simp), fun _ => ⟨D, rfl⟩⟩
 | x :: s, g, D => by
  have key : ∀ (k : Nat) (hk : k < s.length), (aheadP part (x :: s) (k + 1) s[k]).foldl (stepS kd c ord l) (g (part s[k])) = (aheadP part s k s[k]).foldl (stepS kd c ord l) ((fun y => if y = part x then (nextS kd c ord (g (part x)) (rowP l x)).1 else g y) (part s[k])) := by
   intro k hk
   simp only [aheadP, List.take_succ_cons]
   by_cases e : part s[k] = part x
   ·rw [List.filter_cons_of_pos (by simp [e])]
    simp only [List.foldl_cons, e, if_true]
   ·rw [List.filter_cons_of_neg (by simp; exact fun h => e h.symm), if_neg e]
  constructor
  ·rintro ⟨D', h⟩ k hk
   rw [compF] at h
   split at h
   case isFalse => simp at h
   rename_i hok
   have ih := (compF_iff s _ _).1 ⟨D', h⟩
   cases k with
   | zero => simp only [List.getElem_cons_zero, aheadP, List.take_zero, List.filter_nil, List.foldl_nil]; exact hok
   | succ k =>
    have hk' : k < s.length := by simpa using hk
    have := ih k hk'
    rw [← key k hk'] at this
    simpa only [List.getElem_cons_succ] using this
  ·intro h
   have h0 := h 0 (by simp)
   simp only [List.getElem_cons_zero, aheadP, List.take_zero, List.filter_nil, List.foldl_nil] at h0
   rw [compF, if_pos h0]
   refine (compF_iff s _ _).2 fun k hk => ?_
   have := h (k + 1) (by simpa using hk)
   simp only [List.getElem_cons_succ] at this
   rw [← key k hk]; exact this

theorem foldl_emb {α : Type} {f f' : α → Int → α} {e : Int → Int} : ∀ (L : List Int) (st : α), (∀ y ∈ L, ∀ st, f' st y = f st (e y)) → L.foldl f' st = (L.map e).foldl f st
 | [], _, _ => rfl
 | y :: L, st, h => by
  rw [List.foldl_cons, List.map_cons, List.foldl_cons, h y (by simp), foldl_emb L _ fun z hz => h z (by simp [hz])]

theorem comp_sub {kd c : Int} {b b' o : List Int} {R : Rows} {E : List Nat} {D : List Val} {first : List Val} (hR : computeR kd c b o R = (some D, 0)) (hs : E.Pairwise (· < ·)) (hE : ∀ i, i ∈ E ↔ i < R.length ∧ keyI R b (i : Int) = pickC first b) (hw' : winOk kd c b' o (subR R E) = true)
  (hb' : b' = b ∨ b' = []) : D.length = R.length ∧ computeR kd c b' o (subR R E) = (some (E.map fun i => D.getD i zV), 0) := by
 have hElt : ∀ i ∈ E, i < R.length := fun i hi => ((hE i).1 hi).1
 have hw : winOk kd c b o R = true := by
  cases h : winOk kd c b o R with
  | true => rfl
  | false => rw [computeR, h] at hR; simp at hR
 have hodd : ¬ (kd = 3 ∧ (R.any fun p => oddC c p.2) = true) := fun h => by
  rw [computeR, if_pos hw, if_pos h] at hR; simp at hR
 rw [computeR, if_pos hw, if_neg hodd] at hR
 obtain ⟨D0, hD⟩ : ∃ D0, compF kd c o R (gdZ (partI R b)) (fun _ => St0) (sortI R o) (List.replicate R.length zV) = some D0 := by
  cases h : compF kd c o R (gdZ (partI R b)) (fun _ => St0) (sortI R o) (List.replicate R.length zV) with
  | some D0 => exact ⟨D0, rfl⟩
  | none => rw [h] at hR; simp at hR
 rw [hD] at hR
 obtain rfl : D0 = D := by simpa using hR
 have hok := (compF_iff _ _ _).1 ⟨D0, hD⟩
 obtain ⟨l1, _, h3⟩ := compF_some _ _ _ _ hD (sortI_nodup R o) (fun x hx => by rw [List.length_replicate]; exact sortI_in hx)
 rw [List.length_replicate] at l1
 refine ⟨l1, ?_⟩
 have hq : ∀ i, i < R.length → ((fun y => decide (keyI R b y = pickC first b)) (i : Int) = true ↔ i ∈ E) := fun i hi => by
  simp only [decide_eq_true_eq]
  rw [hE i]; exact ⟨fun h => ⟨hi, h⟩, fun h => h.2⟩
 have hsub := sort_sub (o := o) (q := fun y => decide (keyI R b y = pickC first b)) hs hElt hq
 have hin : ∀ x ∈ sortI (subR R E) o, 0 ≤ x ∧ x < E.length := fun x hx => by
  have := sortI_in hx
  rwa [subR_len] at this
 -- what stands ahead
 have hahead : ∀ (k : Nat) (hk : k < (sortI (subR R E) o).length), ∃ (k2 : Nat) (hk2 : k2 < (sortI R o).length), (sortI R o)[k2] = embE E (sortI (subR R E) o)[k] ∧
   (aheadP (gdZ (partI (subR R E) b')) (sortI (subR R E) o) k (sortI (subR R E) o)[k]).map (embE E) = aheadP (gdZ (partI R b)) (sortI R o) k2 (embE E (sortI (subR R E) o)[k]) := by
  intro k hk
  have hx := hin _ (List.getElem_mem hk)
  have hb := embE_in hElt hx
  obtain ⟨k2, hk2, hk2x⟩ := List.getElem_of_mem (sortI_mem (by_ := o) hb)
  refine ⟨k2, hk2, hk2x, ?_⟩
  -- all rows of the part are of one partition
  have hkey : ∀ y : Int, 0 ≤ y ∧ y < E.length → keyI R b (embE E y) = pickC first b := fun y hy => by
   have h2 : y.toNat < E.length := by omega
   have : embE E y = ((E[y.toNat] : Nat) : Int) := by
    unfold embE; rw [List.getD_eq_getElem?_getD, List.getElem?_eq_getElem h2]; rfl
   rw [this]
   exact ((hE _).1 (List.getElem_mem h2)).2
  have hsame : ∀ y : Int, 0 ≤ y ∧ y < E.length → gdZ (partI (subR R E) b') y = gdZ (partI (subR R E) b') (sortI (subR R E) o)[k] := fun y hy => by
   refine (partI_law (by rw [subR_len]; exact hy) (by rw [subR_len]; exact hx)).2 ?_
   rcases hb' with rfl | rfl
   ·have e1 : rowN (subR R E) y = rowN R (embE E y) := congrArg Prod.snd (subR_row hy)
    have e2 : rowN (subR R E) (sortI (subR R E) o)[k] = rowN R (embE E (sortI (subR R E) o)[k]) := congrArg Prod.snd (subR_row hx)
    unfold keyI
    rw [e1, e2]
    exact (hkey y hy).trans (hkey _ hx).symm
   ·rfl
  have hall : aheadP (gdZ (partI (subR R E) b')) (sortI (subR R E) o) k (sortI (subR R E) o)[k] = (sortI (subR R E) o).take k := by
   unfold aheadP
   rw [List.filter_eq_self]
   intro y hy
   simp only [decide_eq_true_eq]
   exact hsame y (hin y (List.mem_of_mem_take hy))
  have hfil : aheadP (gdZ (partI R b)) (sortI R o) k2 (embE E (sortI (subR R E) o)[k]) = ((sortI R o).take k2).filter fun y => decide (keyI R b y = pickC first b) := by
   unfold aheadP
   refine List.filter_congr fun y hy => ?_
   have hyb := sortI_in (List.mem_of_mem_take hy)
   refine decide_eq_decide.2 ?_
   rw [partI_law hyb hb, hkey _ hx]
  rw [hall, hfil, List.map_take, hsub]
  rw [filter_take (k := k2)]
  congr 1
  have hat := filter_at (q := fun y => decide (keyI R b y = pickC first b)) hk2 (by rw [hk2x]; simp only [decide_eq_true_eq]; exact hkey _ hx)
  have hat2 : ((sortI R o).filter fun y => decide (keyI R b y = pickC first b))[k]? = some (embE E (sortI (subR R E) o)[k]) := by
   rw [← hsub, List.getElem?_map, List.getElem?_eq_getElem hk]; rfl
  rw [hk2x] at hat
  have hnd : ((sortI R o).filter fun y => decide (keyI R b y = pickC first b)).Nodup := (sortI_nodup R o).filter _
  obtain ⟨hA, eA⟩ := List.getElem?_eq_some_iff.1 hat
  obtain ⟨hB, eB⟩ := List.getElem?_eq_some_iff.1 hat2
  rcases Nat.lt_trichotomy (((sortI R o).take k2).filter fun y => decide (keyI R b y = pickC first b)).length k with h | h | h
  ·exact absurd (eA.trans eB.symm) (List.pairwise_iff_getElem.1 hnd _ _ hA hB h)
  ·exact h.symm
  ·exact absurd (eB.trans eA.symm) (List.pairwise_iff_getElem.1 hnd _ _ hB hA h)
 have hnext : ∀ (k : Nat) (hk : k < (sortI (subR R E) o).length), ∃ (k2 : Nat) (hk2 : k2 < (sortI R o).length), (sortI R o)[k2] = embE E (sortI (subR R E) o)[k] ∧
   nextS kd c o ((aheadP (gdZ (partI (subR R E) b')) (sortI (subR R E) o) k (sortI (subR R E) o)[k]).foldl (stepS kd c o (subR R E)) St0) (rowP (subR R E) (sortI (subR R E) o)[k]) =
    nextS kd c o ((aheadP (gdZ (partI R b)) (sortI R o) k2 (sortI R o)[k2]).foldl (stepS kd c o R) St0) (rowP R (sortI R o)[k2]) := by
  intro k hk
  obtain ⟨k2, hk2, e1, e2⟩ := hahead k hk
  refine ⟨k2, hk2, e1, ?_⟩
  rw [e1, ← e2, subR_row (hin _ (List.getElem_mem hk)), foldl_emb (f := stepS kd c o R) (e := embE E)]
  intro y hy st
  have hy' := hin y (List.mem_of_mem_take (List.mem_filter.1 hy).1)
  unfold stepS
  rw [subR_row hy']
 obtain ⟨D', hD'⟩ := (compF_iff (kd := kd) (c := c) (ord := o) (l := subR R E) (part := gdZ (partI (subR R E) b')) (sortI (subR R E) o) (fun _ => St0) (List.replicate (subR R E).length zV)).2 fun k hk => by
  obtain ⟨k2, hk2, _, e2⟩ := hnext k hk
  rw [e2]; exact hok k2 hk2
 obtain ⟨m1, _, m3⟩ := compF_some _ _ _ _ hD' (sortI_nodup _ o) (fun x hx => by rw [List.length_replicate]; exact sortI_in hx)
 rw [List.length_replicate, subR_len] at m1
 have hodd' : ¬ (kd = 3 ∧ ((subR R E).any fun p => oddC c p.2) = true) := by
  rintro ⟨h1, h2⟩
  refine hodd ⟨h1, ?_⟩
  rw [List.any_eq_true] at h2 ⊢
  obtain ⟨p, hp, hpo⟩ := h2
  simp only [subR, List.mem_map] at hp
  obtain ⟨i, hi, rfl⟩ := hp
  have := hElt i hi
  exact ⟨R[i], List.getElem_mem this, by rw [List.getD_eq_getElem?_getD, List.getElem?_eq_getElem this] at hpo; exact hpo⟩
 rw [computeR, if_pos hw', if_neg hodd', hD']
 have : D' = E.map fun i => D0.getD i zV := by
  apply List.ext_getElem?
  intro j
  rcases Nat.lt_or_ge j E.length with hj | hj
  ·obtain ⟨k, hk, hkx⟩ := List.getElem_of_mem (sortI_mem (l := subR R E) (by_ := o) (x := (j : Int)) (by rw [subR_len]; omega))
   obtain ⟨k2, hk2, e1, e2⟩ := hnext k hk
   have a1 := m3 k hk
   have a2 := h3 k2 hk2
   rw [e2, ← Option.some.inj (a2.symm.trans a2)] at a1
   rw [hkx] at a1
   rw [e1, hkx] at a2
   have he : embE E (j : Int) = ((E[j] : Nat) : Int) := by
    unfold embE; rw [Int.toNat_natCast, List.getD_eq_getElem?_getD, List.getElem?_eq_getElem hj]; rfl
   rw [he, Int.toNat_natCast] at a2
   rw [Int.toNat_natCast] at a1
   rw [List.getElem?_map, List.getElem?_eq_getElem hj, a1]
   simp only [Option.map_some, List.getD_eq_getElem?_getD]
   rw [e1, hkx, he] 
   rw [a2]; rfl
  ·rw [List.getElem?_eq_none (by omega), List.getElem?_eq_none (by simp; omega)]
 rw [this]
end Go.Abs
/- The plain law of windows: sums of made tables; values are short. -/
set_option linter.unusedSimpArgs false
set_option linter.unusedVariables false
namespace Go.Abs
open Go

theorem nextS_sum {c : Int} {o : List Int} {s : St} {fr : SlF × List Val} : (nextS 3 c o s fr).1.sum.i = s.sum.i ∨ ((nextS 3 c o s fr).1.sum.i = IntKind.i64.wrap (s.sum.i + (colN fr.2 c).i)) := by
 unfold nextS
 dsimp only
 rw [if_neg (by decide), if_neg (by decide), if_neg (by decide)]
 split
 ·split
  ·exact .inl rfl
  ·exact .inr rfl
 ·exact .inl rfl
theorem fold_sum {c : Int} {o : List Int} {R : Rows} : ∀ (L : List Int) (st : St) (m : Nat), (∀ y ∈ L, -10000000 ≤ (colN (rowN R y) c).i ∧ (colN (rowN R y) c).i ≤ 10000000) → -10000000 * (m : Int) ≤ st.sum.i → st.sum.i ≤ 10000000 * (m : Int) → m + L.length ≤ 1000 →
  -10000000 * ((m + L.length : Nat) : Int) ≤ (L.foldl (stepS 3 c o R) st).sum.i ∧ (L.foldl (stepS 3 c o R) st).sum.i ≤ 10000000 * ((m + L.length : Nat) : Int)
 | [], st, m, _, h1, h2, _ => by simpa using ⟨h1, h2⟩
 | y :: L, st, m, h, h1, h2, hb => by
  simp only [List.length_cons] at hb
  have hy := h y (by simp)
  have hs := nextS_sum (c := c) (o := o) (s := st) (fr := rowP R y)
  rw [rowP_snd] at hs
  have hw : IntKind.i64.wrap (st.sum.i + (colN (rowN R y) c).i) = st.sum.i + (colN (rowN R y) c).i := wrap_i64 (by omega) (by omega)
  rw [hw] at hs
  have ih := fold_sum (c := c) (o := o) (R := R) L (stepS 3 c o R st y) (m + 1) (fun z hz => h z (by simp [hz])) (by unfold stepS; rcases hs with hs | hs <;> rw [hs] <;> omega) (by unfold stepS; rcases hs with hs | hs <;> rw [hs] <;> omega) (by omega)
  rw [List.foldl_cons, List.length_cons, show m + (L.length + 1) = m + 1 + L.length by omega]
  exact ih
theorem sum_ok {c : Int} {o : List Int} {s : St} {fr : SlF × List Val} (h1 : -1000000000000 ≤ s.sum.i) (h2 : s.sum.i ≤ 1000000000000) (h3 : -10000000 ≤ (colN fr.2 c).i) (h4 : (colN fr.2 c).i ≤ 10000000) : (nextS 3 c o s fr).2.2 = true := by
 have hw : IntKind.i64.wrap (s.sum.i + (colN fr.2 c).i) = s.sum.i + (colN fr.2 c).i := wrap_i64 (by omega) (by omega)
 unfold nextS
 dsimp only
 rw [if_neg (by decide), if_neg (by decide), if_neg (by decide), hw]
 split
 ·rw [if_neg (by omega)]
  simp only [Bool.and_eq_true, decide_eq_true_eq]; omega
 ·simp only [Bool.and_eq_true, decide_eq_true_eq]; omega

theorem numV_small {n : Int} (h1 : -10 ≤ n) (h2 : n ≤ 10) : -10000000 ≤ (numV n).i ∧ (numV n).i ≤ 10000000 := by
 have : (numV n).i = n * 1000000 := wrap_i64 (by omega) (by omega)
 rw [this]; omega
theorem mkRow_col {k : B4} {c : Int} (hc : c = 0 ∨ c = 1) : ((colN (mkRow k) c).k = 0 ∨ (colN (mkRow k) c).k = 2) ∧ -10000000 ≤ (colN (mkRow k) c).i ∧ (colN (mkRow k) c).i ≤ 10000000 := by
 rcases hc with rfl | rfl
 ·have : colN (mkRow k) 0 = numV ((k.1 % 3 : Nat) : Int) := rfl
  rw [this]
  exact ⟨.inr rfl, numV_small (by omega) (by omega)⟩
 ·have : colN (mkRow k) 1 = if k.2.1 % 5 = 0 then zV else numV (((k.2.1 % 7 : Nat) : Int) - 2) := rfl
  rw [this]
  split
  ·exact ⟨.inl rfl, by decide, by decide⟩
  ·exact ⟨.inr rfl, numV_small (by omega) (by omega)⟩
theorem mkRows_row {l : List B4} {x : Int} (h : 0 ≤ x ∧ x < (mkRows l).length) : ∃ k, rowN (mkRows l) x = mkRow k := by
 have := rowN_int h
 have hm : (mkRows l)[x.toNat]'(by omega) ∈ mkRows l := List.getElem_mem _
 simp only [mkRows, List.mem_map] at hm
 obtain ⟨k, _, hk⟩ := hm
 exact ⟨k, by rw [← this]; simp only [mkRows] at hk ⊢; rw [← hk]⟩
theorem winCol3 (q : B4) : winCol 3 q = 0 ∨ winCol 3 q = 1 := by unfold winCol; rw [if_pos rfl]; omega

theorem comp_made {l : List B4} {q : B4} {kind : Int} (h : 1 ≤ kind ∧ kind ≤ 4) : ∃ D, computeR kind (winCol kind q) (winBy q) (winOrd q) (mkRows l) = (some D, 0) ∧ D.length = (mkRows l).length := by
 by_cases hk : kind = 3
 ·subst hk
  have hw := win_ok (l := l) (q := q) h
  have hcol : ∀ x : Int, 0 ≤ x ∧ x < (mkRows l).length → (((colN (rowN (mkRows l) x) (winCol 3 q)).k = 0 ∨ (colN (rowN (mkRows l) x) (winCol 3 q)).k = 2) ∧ -10000000 ≤ (colN (rowN (mkRows l) x) (winCol 3 q)).i ∧ (colN (rowN (mkRows l) x) (winCol 3 q)).i ≤ 10000000) := fun x hx => by
   obtain ⟨k, hk⟩ := mkRows_row hx
   have := mkRow_col (k := k) (winCol3 q)
   rw [← hk] at this
   exact this
  have hR3 := (mkRows_fit l).1
  obtain ⟨D, hD⟩ := (compF_iff (kd := 3) (c := winCol 3 q) (ord := winOrd q) (l := mkRows l) (part := gdZ (partI (mkRows l) (winBy q))) (sortI (mkRows l) (winOrd q)) (fun _ => St0) (List.replicate (mkRows l).length zV)).2 fun k hk => by
   have hx := sortI_in (List.getElem_mem hk)
   have hlen := sortI_len (mkRows l) (winOrd q)
   have hA : (aheadP (gdZ (partI (mkRows l) (winBy q))) (sortI (mkRows l) (winOrd q)) k (sortI (mkRows l) (winOrd q))[k]).length ≤ 300 := by
    unfold aheadP
    have := List.length_filter_le (fun y => decide (gdZ (partI (mkRows l) (winBy q)) y = gdZ (partI (mkRows l) (winBy q)) (sortI (mkRows l) (winOrd q))[k])) ((sortI (mkRows l) (winOrd q)).take k)
    rw [List.length_take] at this; omega
   have hs := fold_sum (c := winCol 3 q) (o := winOrd q) (R := mkRows l) (aheadP (gdZ (partI (mkRows l) (winBy q))) (sortI (mkRows l) (winOrd q)) k (sortI (mkRows l) (winOrd q))[k]) St0 0 (fun y hy => (hcol y (sortI_in (List.mem_of_mem_take (List.mem_filter.1 hy).1))).2) (by decide) (by decide) (by omega)
   have hv := (hcol _ hx).2
   exact sum_ok (by omega) (by omega) (by rw [rowP_snd]; exact hv.1) (by rw [rowP_snd]; exact hv.2)
  obtain ⟨h1, _, _⟩ := compF_some _ _ _ _ hD (sortI_nodup _ _) (fun x hx => by rw [List.length_replicate]; exact sortI_in hx)
  rw [List.length_replicate] at h1
  have hodd : ¬ ((3 : Int) = 3 ∧ ((mkRows l).any fun p => oddC (winCol 3 q) p.2) = true) := by
   rintro ⟨_, h⟩
   rw [List.any_eq_true] at h
   obtain ⟨p, hp, ho⟩ := h
   obtain ⟨i, hi, rfl⟩ := List.getElem_of_mem hp
   have := (hcol (i : Int) (by omega)).1
   rw [rowN_get hi] at this
   simp only [oddC, Bool.and_eq_true, Bool.not_eq_true', decide_eq_false_iff_not] at ho
   rcases this with e | e
   ·exact ho.1 e
   ·exact ho.2 e
  exact ⟨D, by rw [computeR, if_pos hw, if_neg hodd, hD], h1⟩
 ·obtain ⟨D, h1, h2, _⟩ := comp_at (win_ok (l := l) (q := q) h) (by omega)
  exact ⟨D, h1, h2⟩

structure StShort (s : St) : Prop where
 sum : s.sum.s = ⟨#[]⟩
 last : ∀ p, s.last = some p → ∀ v ∈ p.2, Short v
theorem short_numV (n : Int) : Short (numV n) := by unfold Short numV; exact (by decide : (⟨#[]⟩ : ByteArray).size < 9223372036854775807)
theorem short_zV : Short zV := by unfold Short zV; exact (by decide : (⟨#[]⟩ : ByteArray).size < 9223372036854775807)
theorem short_col {r : List Val} (h : ∀ v ∈ r, Short v) (c : Int) : Short (colN r c) := by
 unfold colN
 rw [List.getD_eq_getElem?_getD]
 cases hr : r[c.toNat]? with
 | none => exact short_zV
 | some v => exact h v (List.mem_of_getElem? hr)
theorem nextS_short {kd c : Int} {o : List Int} {s : St} {fr : SlF × List Val} (h : StShort s) (hf : ∀ v ∈ fr.2, Short v) : StShort (nextS kd c o s fr).1 ∧ Short (nextS kd c o s fr).2.1 := by
 have hl : ∀ p, (nextS kd c o s fr).1.last = some p → ∀ v ∈ p.2, Short v := fun p hp => by
  rw [nextS_last] at hp
  obtain rfl := Option.some.inj hp
  exact hf
 have hsz : ∀ (k i : Int), Short ⟨k, i, s.sum.s⟩ := fun k i => by
  unfold Short; simp only [h.sum]; exact (by decide : (⟨#[]⟩ : ByteArray).size < 9223372036854775807)
 have hlag : Short (lagV s.last c) := by
  unfold lagV
  split
  ·exact short_zV
  ·rename_i p hp; exact short_col (h.last p hp) c
 refine ⟨⟨?_, hl⟩, ?_⟩
 ·unfold nextS
  dsimp only
  repeat' split
  all_goals exact h.sum
 ·unfold nextS
  dsimp only
  repeat' split
  all_goals first | exact short_numV _ | exact short_zV | exact hlag | exact hsz _ _ | exact hsz s.sum.k s.sum.i
theorem fold_short {kd c : Int} {o : List Int} {R : Rows} (hR : ∀ p ∈ R, ∀ v ∈ p.2, Short v) : ∀ (L : List Int) (st : St), StShort st → StShort (L.foldl (stepS kd c o R) st)
 | [], st, h => h
 | y :: L, st, h => by
  rw [List.foldl_cons]
  refine fold_short hR L _ (nextS_short h ?_).1
  rw [rowP_snd]
  unfold rowN
  rw [List.getD_eq_getElem?_getD]
  cases hr : R[y.toNat]? with
  | none => intro v hv; simp at hv
  | some p => exact hR p (List.mem_of_getElem? hr)
theorem comp_short {kd c : Int} {b o : List Int} {R : Rows} {D : List Val} {n : Int} (hR : ∀ p ∈ R, ∀ v ∈ p.2, Short v) (h : computeR kd c b o R = (some D, n)) : D.length = R.length ∧ ∀ v ∈ D, Short v := by
 unfold computeR at h
 split at h
 case isFalse => simp at h
 split at h
 ·simp at h
 split at h
 case h_2 => simp at h
 rename_i D0 hD
 obtain rfl : D0 = D := by simpa using (Prod.mk.inj h).1
 obtain ⟨h1, _, h3⟩ := compF_some _ _ _ _ hD (sortI_nodup R o) (fun x hx => by rw [List.length_replicate]; exact sortI_in hx)
 rw [List.length_replicate] at h1
 refine ⟨h1, fun v hv => ?_⟩
 obtain ⟨i, hi, rfl⟩ := List.getElem_of_mem hv
 obtain ⟨k, hk, hkx⟩ := List.getElem_of_mem (sortI_mem (l := R) (by_ := o) (x := (i : Int)) (by omega))
 have h4 := h3 k hk
 rw [hkx, Int.toNat_natCast, List.getElem?_eq_getElem hi] at h4
 rw [Option.some.inj h4]
 refine (nextS_short (fold_short hR _ _ ⟨rfl, fun p hp => by simp [St0] at hp⟩) ?_).2
 rw [rowP_snd, rowN_get (by omega)]
 exact hR _ (List.getElem_mem _)
end Go.Abs
/- The plain law of windows: values along the order of partitions and rows. -/
set_option linter.unusedSimpArgs false
set_option linter.unusedVariables false
namespace Go.Abs
open Go

theorem comp_at' {kd c : Int} {b o : List Int} {R : Rows} {D : List Val} (hR : computeR kd c b o R = (some D, 0)) : D.length = R.length ∧
  ∀ x : Int, 0 ≤ x ∧ x < R.length → ∃ A : List Int, A = ((sortI R o).filter fun y => decide (gdZ (partI R b) y = gdZ (partI R b) x)).take A.length ∧
   ((sortI R o).filter fun y => decide (gdZ (partI R b) y = gdZ (partI R b) x))[A.length]? = some x ∧ D[x.toNat]? = some (nextS kd c o (A.foldl (stepS kd c o R) St0) (rowP R x)).2.1 := by
 have hw : winOk kd c b o R = true := by
  cases h : winOk kd c b o R with
  | true => rfl
  | false => rw [computeR, h] at hR; simp at hR
 have hodd : ¬ (kd = 3 ∧ (R.any fun p => oddC c p.2) = true) := fun h => by
  rw [computeR, if_pos hw, if_pos h] at hR; simp at hR
 rw [computeR, if_pos hw, if_neg hodd] at hR
 obtain ⟨D0, hD⟩ : ∃ D0, compF kd c o R (gdZ (partI R b)) (fun _ => St0) (sortI R o) (List.replicate R.length zV) = some D0 := by
  cases h : compF kd c o R (gdZ (partI R b)) (fun _ => St0) (sortI R o) (List.replicate R.length zV) with
  | some D0 => exact ⟨D0, rfl⟩
  | none => rw [h] at hR; simp at hR
 rw [hD] at hR
 obtain rfl : D0 = D := by simpa using hR
 obtain ⟨h1, _, h3⟩ := compF_some _ _ _ _ hD (sortI_nodup R o) (fun x hx => by rw [List.length_replicate]; exact sortI_in hx)
 rw [List.length_replicate] at h1
 refine ⟨h1, fun x hx => ?_⟩
 obtain ⟨k, hk', hkx⟩ := List.getElem_of_mem (sortI_mem (by_ := o) hx)
 have h4 := h3 k hk'
 rw [hkx] at h4
 refine ⟨aheadP (gdZ (partI R b)) (sortI R o) k x, ?_, ?_, h4⟩
 ·exact filter_take
 ·have := filter_at (q := fun y => decide (gdZ (partI R b) y = gdZ (partI R b) x)) hk' (by rw [hkx]; simp)
  rw [hkx] at this; exact this

theorem cmpR_app : ∀ (x u v : List Val), cmpR (x ++ u) (x ++ v) = cmpR u v
 | [], _, _ => rfl
 | a :: x, u, v => by rw [List.cons_append, List.cons_append, cmpR, if_pos (cmpV_zero.2 rfl), cmpR_app x]
theorem cmpI_app {R : Rows} {b o : List Int} {x y : Int} (h : keyI R b x = keyI R b y) : cmpI R (b ++ o) x y = cmpI R o x y := by
 unfold cmpI
 have e : ∀ r, pickC r (b ++ o) = pickC r b ++ pickC r o := fun r => by simp [pickC]
 unfold keyI at h
 rw [e, e, h, cmpR_app]
theorem cmpR_pre : ∀ {x y u v : List Val}, x.length = y.length → cmpR (x ++ u) (y ++ v) ≤ 0 → cmpR x y ≤ 0
 | [], [], _, _, _, _ => by simp [cmpR]
 | [], _ :: _, _, _, h, _ => by simp at h
 | _ :: _, [], _, _, h, _ => by simp at h
 | a :: x, b :: y, u, v, h, hc => by
  simp only [List.cons_append, cmpR] at hc ⊢
  by_cases e : cmpV a b = 0
  ·rw [if_pos e] at hc ⊢; exact cmpR_pre (by simpa using h) hc
  ·rw [if_neg e] at hc ⊢; exact hc
theorem sortI_lt (R : Rows) (o : List Int) : (sortI R o).Pairwise (fun a b => ltI R o a b = true) := by
 have h1 := sortI_pair R o
 have h2 := sortI_nodup R o
 refine (List.Pairwise.and h1 h2).imp fun {a b} ⟨hab, hne⟩ => ?_
 have hz : cmpI R o a b ≠ 0 := fun h => hne (cmpI_zero.1 h)
 simp only [ltI, decide_eq_true_eq]; omega

theorem filter_both {R : Rows} {b o : List Int} {key : List Val} : (sortI R (b ++ o)).filter (fun y => decide (keyI R b y = key)) = (sortI R o).filter (fun y => decide (keyI R b y = key)) := by
 refine strict_unique (r := ltI R o) (p := fun _ => True) (fun a b _ _ h => (ltI_tot R o (fun _ => True)).asym a b trivial trivial h) (fun _ _ => trivial) (fun x => ?_) ?_ ((sortI_lt R o).filter _)
 ·simp only [List.mem_filter]
  constructor
  ·rintro ⟨h1, h2⟩; exact ⟨sortI_mem (sortI_in h1), h2⟩
  ·rintro ⟨h1, h2⟩; exact ⟨sortI_mem (sortI_in h1), h2⟩
 ·refine (List.Pairwise.and_mem.1 ((sortI_lt R (b ++ o)).filter _)).imp fun {x y} ⟨hx, hy, hxy⟩ => ?_
  have h1 := of_decide_eq_true (List.mem_filter.1 hx).2
  have h2 := of_decide_eq_true (List.mem_filter.1 hy).2
  simp only [ltI, decide_eq_true_eq] at hxy ⊢
  rwa [cmpI_app (h1.trans h2.symm)] at hxy

def aheadK (R : Rows) (b : List Int) (s : List Int) (i : Nat) : List Int := (s.take i).filter fun y => decide (keyI R b y = keyI R b (s.getD i 0))

theorem comp_along {kd c : Int} {b o : List Int} {R : Rows} {D : List Val} (hR : computeR kd c b o R = (some D, 0)) {i : Nat} (hi : i < (sortI R (b ++ o)).length) :
  D[((sortI R (b ++ o))[i]).toNat]? = some (nextS kd c o ((aheadK R b (sortI R (b ++ o)) i).foldl (stepS kd c o R) St0) (rowP R (sortI R (b ++ o))[i])).2.1 := by
 have hx := sortI_in (List.getElem_mem hi)
 obtain ⟨A, h1, h2, h3⟩ := (comp_at' hR).2 _ hx
 have hg : (sortI R (b ++ o)).getD i 0 = (sortI R (b ++ o))[i] := by rw [List.getD_eq_getElem?_getD, List.getElem?_eq_getElem hi]; rfl
 generalize hxe : (sortI R (b ++ o))[i] = x at hx h1 h2 h3 hg
 have hf : ((sortI R o).filter fun y => decide (gdZ (partI R b) y = gdZ (partI R b) x)) = (sortI R (b ++ o)).filter fun y => decide (keyI R b y = keyI R b x) := by
  rw [filter_both]
  refine List.filter_congr fun y hy => decide_eq_decide.2 (partI_law (sortI_in hy) hx)
 rw [hf] at h1 h2
 have hat := filter_at (q := fun y => decide (keyI R b y = keyI R b x)) hi (by rw [hxe]; simp)
 have hnd : ((sortI R (b ++ o)).filter fun y => decide (keyI R b y = keyI R b x)).Nodup := (sortI_nodup R _).filter _
 have hl : A.length = (((sortI R (b ++ o)).take i).filter fun y => decide (keyI R b y = keyI R b x)).length := by
  obtain ⟨hA, eA⟩ := List.getElem?_eq_some_iff.1 h2
  obtain ⟨hB, eB⟩ := List.getElem?_eq_some_iff.1 hat
  rw [hxe] at eB
  rcases Nat.lt_trichotomy A.length (((sortI R (b ++ o)).take i).filter fun y => decide (keyI R b y = keyI R b x)).length with h | h | h
  ·exact absurd (eA.trans eB.symm) (List.pairwise_iff_getElem.1 hnd _ _ hA hB h)
  ·exact h
  ·exact absurd (eB.trans eA.symm) (List.pairwise_iff_getElem.1 hnd _ _ hB hA h)
 have hAe : A = aheadK R b (sortI R (b ++ o)) i := by
  refine h1.trans ?_
  unfold aheadK
  rw [hl, hg, ← filter_take (k := i)]
 rw [h3, hAe]

theorem ahead_zero {R : Rows} {b s : List Int} : aheadK R b s 0 = [] := rfl
theorem ahead_len {R : Rows} {b s : List Int} {i : Nat} : (aheadK R b s i).length ≤ i := by
 unfold aheadK
 have := List.length_filter_le (fun y => decide (keyI R b y = keyI R b (s.getD i 0))) (s.take i)
 rw [List.length_take] at this; omega
theorem ahead_eq {R : Rows} {b s : List Int} {i : Nat} (hi : i + 1 < s.length) (h : keyI R b s[i] = keyI R b s[i + 1]) : aheadK R b s (i + 1) = aheadK R b s i ++ [s[i]] := by
 unfold aheadK
 rw [List.getD_eq_getElem?_getD, List.getElem?_eq_getElem hi, List.getD_eq_getElem?_getD, List.getElem?_eq_getElem (show i < s.length by omega), Option.getD_some, Option.getD_some, List.take_add_one, List.getElem?_eq_getElem (show i < s.length by omega), List.filter_append, h]
 simp [h]
theorem ahead_ne {R : Rows} {b o : List Int} {i : Nat} (hi : i + 1 < (sortI R (b ++ o)).length) (h : ¬ keyI R b (sortI R (b ++ o))[i] = keyI R b (sortI R (b ++ o))[i + 1]) : aheadK R b (sortI R (b ++ o)) (i + 1) = [] := by
 have hkey : ∀ {x y : Int}, cmpI R (b ++ o) x y ≤ 0 → cmpR (keyI R b x) (keyI R b y) ≤ 0 := fun {x y} hxy => by
  have h1 := cmpI_key hxy
  have e : ∀ r, pickC r (b ++ o) = pickC r b ++ pickC r o := fun r => by simp [pickC]
  unfold keyI at h1 ⊢
  rw [e, e] at h1
  exact cmpR_pre (by rw [pickC_len, pickC_len]) h1
 have hp := List.pairwise_iff_getElem.1 (sortI_pair R (b ++ o))
 unfold aheadK
 rw [List.getD_eq_getElem?_getD, List.getElem?_eq_getElem hi, Option.getD_some, List.filter_eq_nil_iff]
 intro y hy
 obtain ⟨j, hj, rfl⟩ := List.getElem_of_mem hy
 rw [List.length_take] at hj
 rw [List.getElem_take]
 simp only [decide_eq_true_eq]
 intro he
 rcases Nat.lt_or_ge j i with hji | hji
 ·have g1 := hkey (hp j i (by omega) (by omega) hji)
  have g2 := hkey (hp i (i + 1) (by omega) hi (by omega))
  have := (cmpR_trans g1 g2).2 (by rw [he]; exact cmpR_zero.2 rfl)
  exact h (cmpR_zero.1 this.2)
 ·have : j = i := by omega
  subst this
  exact h he

def numAt (R : Rows) (b s : List Int) (i : Nat) : Nat := (aheadK R b s i).length + 1
def rankAt (R : Rows) (c : Int) (b o s : List Int) (i : Nat) : Int := (nextS 2 c o ((aheadK R b s i).foldl (stepS 2 c o R) St0) (rowP R (s.getD i 0))).1.rank

theorem nextS_rank {kd c : Int} {o : List Int} {s : St} {fr : SlF × List Val} : (nextS kd c o s fr).1.rank = if isPeer o s.last fr.2 = true then s.rank else IntKind.i64.wrap (s.n + 1) := by
 unfold nextS
 dsimp only
 repeat' split
 all_goals first | rfl | (exfalso; simp_all; done)
theorem cmpV_num {a b : Int} (h1 : 0 ≤ a) (h2 : a ≤ b) (h3 : b ≤ 1000) : ¬ 0 < cmpV (numV a) (numV b) := by
 have ea : (numV a).i = a * 1000000 := wrap_i64 (by omega) (by omega)
 have eb : (numV b).i = b * 1000000 := wrap_i64 (by omega) (by omega)
 by_cases e : a = b
 ·subst e; rw [cmpV_zero.2 rfl]; omega
 ·unfold cmpV
  rw [if_pos (show (numV a).k = (numV b).k from rfl), ea, eb, if_neg (by omega)]
  unfold sgn
  rw [if_pos (by omega)]; omega

theorem rank_zero {R : Rows} {c : Int} {b o s : List Int} {i : Nat} (h : aheadK R b s i = []) : rankAt R c b o s i = 1 := by
 unfold rankAt
 rw [h, List.foldl_nil, nextS_rank]
 rfl
theorem rank_step {R : Rows} {c : Int} {b o s : List Int} {i : Nat} (hi : i + 1 < s.length) (hb : s.length < 1000) (h : keyI R b s[i] = keyI R b s[i + 1]) :
  rankAt R c b o s (i + 1) = if keyI R o s[i] = keyI R o s[i + 1] then rankAt R c b o s i else (numAt R b s (i + 1) : Nat) := by
 have g1 : s.getD i 0 = s[i] := by rw [List.getD_eq_getElem?_getD, List.getElem?_eq_getElem (by omega)]; rfl
 have g2 : s.getD (i + 1) 0 = s[i + 1] := by rw [List.getD_eq_getElem?_getD, List.getElem?_eq_getElem hi]; rfl
 have hn : ((aheadK R b s (i + 1)).foldl (stepS 2 c o R) St0).n = ((aheadK R b s (i + 1)).length : Nat) := by
  have := ahead_len (R := R) (b := b) (s := s) (i := i + 1)
  have := fold_n (kd := 2) (c := c) (ord := o) (l := R) (aheadK R b s (i + 1)) St0 0 rfl (by omega)
  rw [this, Nat.zero_add]
 have hl : ((aheadK R b s (i + 1)).foldl (stepS 2 c o R) St0).last = some (rowP R s[i]) := by
  rw [fold_last, ahead_eq hi h, List.getLast?_append]; rfl
 have hr : ((aheadK R b s (i + 1)).foldl (stepS 2 c o R) St0).rank = rankAt R c b o s i := by
  rw [ahead_eq hi h, List.foldl_append]
  unfold rankAt
  rw [g1]; rfl
 unfold rankAt at hr ⊢
 rw [nextS_rank, hl, hn, g2]
 have hlen := ahead_len (R := R) (b := b) (s := s) (i := i + 1)
 have hw : IntKind.i64.wrap (((aheadK R b s (i + 1)).length : Int) + 1) = (numAt R b s (i + 1) : Nat) := by
  rw [wrap_i64 (by omega) (by omega)]; rfl
 rw [hw]
 by_cases e : keyI R o s[i] = keyI R o s[i + 1]
 ·rw [if_pos (show isPeer o (some (rowP R s[i])) (rowP R s[i + 1]).2 = true from decide_eq_true e), if_pos e, hr]
 ·rw [if_neg (show ¬ isPeer o (some (rowP R s[i])) (rowP R s[i + 1]).2 = true from fun h => e (of_decide_eq_true h)), if_neg e]

theorem rank_le {R : Rows} {c : Int} {b o : List Int} (hb : (sortI R (b ++ o)).length < 1000) : ∀ i, i < (sortI R (b ++ o)).length → 1 ≤ rankAt R c b o (sortI R (b ++ o)) i ∧ rankAt R c b o (sortI R (b ++ o)) i ≤ (numAt R b (sortI R (b ++ o)) i : Nat)
 | 0, h => by rw [rank_zero ahead_zero]; unfold numAt; rw [ahead_zero]; simp
 | i + 1, h => by
  have ih := rank_le (c := c) hb i (by omega)
  by_cases e : keyI R b (sortI R (b ++ o))[i] = keyI R b (sortI R (b ++ o))[i + 1]
  ·have hn : numAt R b (sortI R (b ++ o)) (i + 1) = numAt R b (sortI R (b ++ o)) i + 1 := by unfold numAt; rw [ahead_eq h e]; simp
   rw [rank_step h hb e]
   split <;> omega
  ·have := ahead_ne h e
   rw [rank_zero this]; unfold numAt; rw [this]; simp

theorem num_law {c c' : Int} {b o : List Int} {R : Rows} {D1 D2 : List Val} (hR : R.length ≤ 300) (h1 : computeR 1 c b o R = (some D1, 0)) (h2 : computeR 2 c' b o R = (some D2, 0)) :
  ∃ (N : Nat → Nat) (K : Nat → Int), N 0 = 1 ∧ K 0 = 1 ∧ (∀ (i : Nat) (hi : i < (sortI R (b ++ o)).length), D1[((sortI R (b ++ o))[i]).toNat]? = some (numV (N i)) ∧ D2[((sortI R (b ++ o))[i]).toNat]? = some (numV (K i)) ∧ (¬ 0 < cmpV (numV (K i)) (numV (N i))) ∧ 1 ≤ N i ∧ N i ≤ 300) ∧
   (∀ (i : Nat) (hi : i + 1 < (sortI R (b ++ o)).length), keyI R b (sortI R (b ++ o))[i] = keyI R b (sortI R (b ++ o))[i + 1] → N (i + 1) = N i + 1 ∧ K (i + 1) = if keyI R o (sortI R (b ++ o))[i] = keyI R o (sortI R (b ++ o))[i + 1] then K i else (N (i + 1) : Nat)) ∧
   (∀ (i : Nat) (hi : i + 1 < (sortI R (b ++ o)).length), ¬ keyI R b (sortI R (b ++ o))[i] = keyI R b (sortI R (b ++ o))[i + 1] → N (i + 1) = 1 ∧ K (i + 1) = 1) := by
 have hlen := sortI_len R (b ++ o)
 refine ⟨numAt R b (sortI R (b ++ o)), rankAt R c' b o (sortI R (b ++ o)), rfl, rank_zero ahead_zero, fun i hi => ?_, fun i hi e => ?_, fun i hi e => ?_⟩
 ·have ha := ahead_len (R := R) (b := b) (s := sortI R (b ++ o)) (i := i)
  have hr := rank_le (R := R) (c := c') (b := b) (o := o) (by omega) i hi
  refine ⟨?_, ?_, cmpV_num (by omega) hr.2 (by unfold numAt; omega), by unfold numAt; omega, by unfold numAt; omega⟩
  ·rw [comp_along h1 hi, num_val (by omega)]; rfl
  ·rw [comp_along h2 hi]
   unfold rankAt
   have g1 : (sortI R (b ++ o)).getD i 0 = (sortI R (b ++ o))[i] := by rw [List.getD_eq_getElem?_getD, List.getElem?_eq_getElem hi]; rfl
   rw [g1]; rfl
 ·exact ⟨by unfold numAt; rw [ahead_eq hi e]; simp, rank_step hi (by omega) e⟩
 ·have := ahead_ne hi e
  exact ⟨by unfold numAt; rw [this]; rfl, rank_zero this⟩

def addS (p v : Val) : Val := if v.k = 2 then ⟨2, p.i + v.i, p.s⟩ else p
def Sum0 (p : Val) : Prop := p = zV ∨ (p.k = 2 ∧ p.s = ⟨#[]⟩)
theorem Sum0.add {p v : Val} (h : Sum0 p) : Sum0 (addS p v) := by
 unfold addS
 split
 ·refine .inr ⟨rfl, ?_⟩
  rcases h with rfl | h
  ·rfl
  ·exact h.2
 ·exact h
theorem nextS_sum3 {c : Int} {o : List Int} {s : St} {fr : SlF × List Val} (h1 : -1000000000000 ≤ s.sum.i) (h2 : s.sum.i ≤ 1000000000000) (h3 : -10000000 ≤ (colN fr.2 c).i) (h4 : (colN fr.2 c).i ≤ 10000000) :
  (nextS 3 c o s fr).1.sum = addS s.sum (colN fr.2 c) ∧ (nextS 3 c o s fr).2.1 = addS s.sum (colN fr.2 c) := by
 have hw : IntKind.i64.wrap (s.sum.i + (colN fr.2 c).i) = s.sum.i + (colN fr.2 c).i := wrap_i64 (by omega) (by omega)
 unfold nextS addS
 dsimp only
 rw [if_neg (by decide), if_neg (by decide), if_neg (by decide), hw]
 by_cases e : (colN fr.2 c).k = 2
 ·rw [if_pos e, if_pos e, if_neg (by omega)]
  exact ⟨rfl, rfl⟩
 ·rw [if_neg e, if_neg e]
  exact ⟨rfl, rfl⟩
theorem fold_sum0 {c : Int} {o : List Int} {R : Rows} : ∀ (L : List Int) (st : St) (m : Nat), (∀ y ∈ L, -10000000 ≤ (colN (rowN R y) c).i ∧ (colN (rowN R y) c).i ≤ 10000000) → -10000000 * (m : Int) ≤ st.sum.i → st.sum.i ≤ 10000000 * (m : Int) → m + L.length ≤ 1000 → Sum0 st.sum → Sum0 (L.foldl (stepS 3 c o R) st).sum
 | [], st, m, _, _, _, _, h => h
 | y :: L, st, m, h, h1, h2, hb, h0 => by
  simp only [List.length_cons] at hb
  have hy := h y (by simp)
  have hs := (nextS_sum3 (c := c) (o := o) (s := st) (fr := rowP R y) (by omega) (by omega) (by rw [rowP_snd]; exact hy.1) (by rw [rowP_snd]; exact hy.2)).1
  have hs' := fold_sum (c := c) (o := o) (R := R) [y] st m (fun z hz => by rw [List.mem_singleton.1 hz]; exact hy) h1 h2 (by simp; omega)
  rw [List.foldl_cons]
  exact fold_sum0 L _ (m + 1) (fun z hz => h z (by simp [hz])) hs'.1 hs'.2 (by omega) (by unfold stepS; rw [hs]; exact h0.add)
def sumAt (R : Rows) (c : Int) (b o s : List Int) (i : Nat) : Val := addS ((aheadK R b s i).foldl (stepS 3 c o R) St0).sum (colN (rowN R (s.getD i 0)) c)

theorem sum_law {c : Int} {b o : List Int} {R : Rows} {D : List Val} (hR : R.length ≤ 300) (h1 : computeR 3 c b o R = (some D, 0)) (hc : ∀ x : Int, 0 ≤ x ∧ x < R.length → -10000000 ≤ (colN (rowN R x) c).i ∧ (colN (rowN R x) c).i ≤ 10000000) :
  ∃ S : Nat → Val, (∀ (i : Nat) (hi : i < (sortI R (b ++ o)).length), D[((sortI R (b ++ o))[i]).toNat]? = some (S i) ∧ Sum0 (S i) ∧ -1000000000000 ≤ (S i).i ∧ (S i).i ≤ 1000000000000) ∧
   (∀ h : 0 < (sortI R (b ++ o)).length, S 0 = addS zV (colN (rowN R (sortI R (b ++ o))[0]) c)) ∧
   (∀ (i : Nat) (hi : i + 1 < (sortI R (b ++ o)).length), keyI R b (sortI R (b ++ o))[i] = keyI R b (sortI R (b ++ o))[i + 1] → S (i + 1) = addS (S i) (colN (rowN R (sortI R (b ++ o))[i + 1]) c)) ∧
   (∀ (i : Nat) (hi : i + 1 < (sortI R (b ++ o)).length), ¬ keyI R b (sortI R (b ++ o))[i] = keyI R b (sortI R (b ++ o))[i + 1] → S (i + 1) = addS zV (colN (rowN R (sortI R (b ++ o))[i + 1]) c)) := by
 have hlen := sortI_len R (b ++ o)
 have hget : ∀ {i : Nat} (hi : i < (sortI R (b ++ o)).length), (sortI R (b ++ o)).getD i 0 = (sortI R (b ++ o))[i] := fun {i} hi => by rw [List.getD_eq_getElem?_getD, List.getElem?_eq_getElem hi]; rfl
 have hin : ∀ {i : Nat}, ∀ y ∈ aheadK R b (sortI R (b ++ o)) i, -10000000 ≤ (colN (rowN R y) c).i ∧ (colN (rowN R y) c).i ≤ 10000000 := fun {i} y hy => hc y (sortI_in (List.mem_of_mem_take (List.mem_filter.1 hy).1))
 have hfold : ∀ {i : Nat}, i < (sortI R (b ++ o)).length → (-3000000000 ≤ ((aheadK R b (sortI R (b ++ o)) i).foldl (stepS 3 c o R) St0).sum.i ∧ ((aheadK R b (sortI R (b ++ o)) i).foldl (stepS 3 c o R) St0).sum.i ≤ 3000000000) ∧ Sum0 ((aheadK R b (sortI R (b ++ o)) i).foldl (stepS 3 c o R) St0).sum := fun {i} hi => by
  have ha := ahead_len (R := R) (b := b) (s := sortI R (b ++ o)) (i := i)
  have h2 := fold_sum (c := c) (o := o) (R := R) (aheadK R b (sortI R (b ++ o)) i) St0 0 hin (by decide) (by decide) (by omega)
  exact ⟨by omega, fold_sum0 _ St0 0 hin (by decide) (by decide) (by omega) (.inl rfl)⟩
 have hcol : ∀ {i : Nat} (hi : i < (sortI R (b ++ o)).length), -10000000 ≤ (colN (rowN R (sortI R (b ++ o))[i]) c).i ∧ (colN (rowN R (sortI R (b ++ o))[i]) c).i ≤ 10000000 := fun {i} hi => hc _ (sortI_in (List.getElem_mem hi))
 refine ⟨sumAt R c b o (sortI R (b ++ o)), fun i hi => ?_, fun h => ?_, fun i hi e => ?_, fun i hi e => ?_⟩
 ·have h2 := hfold hi
  have h3 := hcol hi
  have h4 := nextS_sum3 (c := c) (o := o) (s := (aheadK R b (sortI R (b ++ o)) i).foldl (stepS 3 c o R) St0) (fr := rowP R (sortI R (b ++ o))[i]) (by omega) (by omega) (by rw [rowP_snd]; exact h3.1) (by rw [rowP_snd]; exact h3.2)
  rw [rowP_snd] at h4
  refine ⟨?_, h2.2.add, ?_⟩
  ·rw [comp_along h1 hi, h4.2]; unfold sumAt; rw [hget hi]
  ·unfold sumAt addS
   rw [hget hi]
   split
   ·simp only; omega
   ·omega
 ·unfold sumAt; rw [ahead_zero, hget h]; rfl
 ·have hi' : i < (sortI R (b ++ o)).length := by omega
  have h2 := hfold hi'
  have h3 := hcol hi'
  have h4 := nextS_sum3 (c := c) (o := o) (s := (aheadK R b (sortI R (b ++ o)) i).foldl (stepS 3 c o R) St0) (fr := rowP R (sortI R (b ++ o))[i]) (by omega) (by omega) (by rw [rowP_snd]; exact h3.1) (by rw [rowP_snd]; exact h3.2)
  rw [rowP_snd] at h4
  unfold sumAt
  rw [hget hi, hget hi', ahead_eq hi e, List.foldl_append, List.foldl_cons, List.foldl_nil]
  unfold stepS
  rw [h4.1]
 ·unfold sumAt; rw [ahead_ne hi e, hget hi]; rfl
end Go.Abs
/- Chapter 42's examples answer. -/
set_option linter.unusedSimpArgs false
set_option linter.unusedVariables false
set_option maxRecDepth 100000
namespace Go.Abs
open Go
theorem X44_says : fSays T 400 i_X44 [] AVal.isTrue = true := by kernel_rfl
theorem X44_spec {lv : List Nat} {σ : Sto} {R : Post} : Cw T true i_X44 [] lv σ R ↔ R (.bool true) σ := cw_true T_X44 rfl X44_says
@[go_sem] theorem X44_call {Q : Post3} {k : List Item} {os : List AOper} {d : Option Nat} {e : Env} {σ : Sto} : CallK T Q k os d e σ true i_X44 [] ↔ Run T Q (.ops os :: k) (put e d (.bool true)) σ := X44_spec
end Go.Abs
/- Walks of chapter 42: what numbers and sums have in common. -/
set_option linter.unusedSimpArgs false
set_option linter.unusedVariables false
set_option maxRecDepth 100000
set_option maxHeartbeats 4000000
namespace Go.Abs
open Go

abbrev gotC (f : SlF) (D : List Val) (n : Int) : AObj := .cells false [rowA f D, .nils, .nils, .int .i64 n]
theorem appendFV_ints {o bytes : Nat} {f : SlF} {X Y : List Int} {σ : Sto} (hσ : σ[o]? = some (.cells false (X.map fun n => .int .i64 n))) (hb : (X.length + Y.length) * bytes ≤ maxBytes) :
  appendFV 1 bytes (.ref o X.length 0 X.length 1) (ints f Y) σ = some (ints .lst (X ++ Y), σ.set o .dead) := by
 have hr : rowOf σ (ints f Y) = some (Y.length, Y.map fun n => .int .i64 n) := rowOf_ints
 have ha : (Y.map fun n => AVal.int .i64 n).all AVal.one = true := by rw [List.all_map]; exact List.all_eq_true.2 fun x _ => rfl
 have hp : AVal.pures (X.map (fun n => AVal.int .i64 n) ++ Y.map fun n => AVal.int .i64 n) = true := by
  rw [← List.map_append]; exact v_names_map (fun _ => rfl) _
 simp only [appendFV, hr, hσ, List.length_map, Nat.mul_one, hp, ha, hb]
 simp only [Nat.zero_lt_one, true_and, and_true, if_true]
 have := chunk_one ((X ++ Y).map fun n => AVal.int .i64 n)
 rw [List.length_map, List.length_append, List.map_append] at this
 rw [this, ints, sv_lst, List.map_append]
theorem append0_ints {o bytes : Nat} {f : SlF} {Y : List Int} {σ : Sto} (hσ : σ[o]? = some (.cells false [])) (hb : Y.length * bytes ≤ maxBytes) :
  appendV 1 bytes (.ref o 0 0 0 1) (ints f Y) σ = some (.ref o Y.length 0 Y.length 1, σ.set o (.cells false (Y.map fun n => .int .i64 n))) := by
 have := appendV_ones (o := o) (bytes := bytes) (f := f) (g := fun n : Int => AVal.int .i64 n) (X := []) (Y := Y) (fun _ => rfl) hσ (by simpa using hb)
 simpa using this

abbrev gotI (s : List Int) : AObj := .cells false [.nils, ints .lst s, .nils, .int .i64 0]
theorem valAt {D : List Val} {x : Int} {v : Val} (hx : 0 ≤ x) (h : D[x.toNat]? = some v) (σ : Sto) : iaddrV 3 (rowA .lst D) (.int .i64 x) σ = some (.fptr [.int .i64 v.k, .int .i64 v.i, .str v.s], σ) := by
 obtain ⟨h1, h2⟩ := List.getElem?_eq_some_iff.1 h
 have := @iaddrV_int' 3 .lst Val (fun v => .agg [.int .i64 v.k, .int .i64 v.i, .str v.s]) D .i64 x σ ⟨hx, by omega⟩
 rw [h2] at this
 exact this
theorem rowAt {R : Rows} {x : Int} (h : 0 ≤ x ∧ x < R.length) (σ : Sto) : iaddrV 1 (rowsA .lst R) (.int .i64 x) σ = some (.fptr [rowA (rowP R x).1 (rowN R x)], σ) := by
 have := @iaddrV_int' 1 .lst _ (fun p : SlF × List Val => sv 3 p.1 (p.2.map fun v => .agg [.int .i64 v.k, .int .i64 v.i, .str v.s])) R .i64 x σ h
 rw [rowP_get (by omega), sv_cells] at this
 exact this

end Go.Abs
/- Walks of chapter 42: sums. -/
set_option linter.unusedSimpArgs false
set_option linter.unusedVariables false
set_option maxRecDepth 100000
set_option maxHeartbeats 4000000
namespace Go.Abs
open Go
attribute [local go_sem_proc] Nat.reduceLT Nat.reduceEqDiff Nat.reduceLeDiff Nat.reduceAdd Nat.reduceSub Nat.reduceMul Int.reduceLT Int.reduceLE Int.reduceEq Int.reduceNeg
attribute [local go_sem_proc ↓] reduceIte

theorem addS_num {p v : Val} (h : v.k = 2) (hp : Sum0 p) : addS p v = ⟨2, p.i + v.i, ⟨#[]⟩⟩ := by
 unfold addS
 rw [if_pos h]
 rcases hp with rfl | hp
 ·rfl
 ·rw [hp.2]
theorem addS_null {p : Val} : addS p zV = p := rfl
theorem Sum0.cases {p : Val} (h : Sum0 p) : (p = zV ∧ p.i = 0 ∧ decide (p.k = 2) = false) ∨ (p = ⟨2, p.i, ⟨#[]⟩⟩ ∧ decide (p.k = 2) = true) := by
 rcases h with rfl | ⟨h1, h2⟩
 ·exact .inl ⟨rfl, rfl, rfl⟩
 ·right
  refine ⟨?_, by simp [h1]⟩
  obtain ⟨k, i, s⟩ := p
  simp only at h1 h2
  rw [h1, h2]

theorem colAt {r : List Val} {f : SlF} {c : Int} (h : 0 ≤ c ∧ c < r.length) (σ : Sto) : iaddrV 3 (rowA f r) (.int .i64 c) σ = some (.fptr [.int .i64 (colN r c).k, .int .i64 (colN r c).i, .str (colN r c).s], σ) := by
 have := @iaddrV_int' 3 f Val (fun v => .agg [.int .i64 v.k, .int .i64 v.i, .str v.s]) r .i64 c σ h
 rw [colN_get h] at this
 exact this
def priorS (S : Nat → Val) (i : Nat) : Val := if i = 0 then zV else S (i - 1)
theorem zV_s : zV = ⟨0, 0, ⟨#[]⟩⟩ := rfl

theorem sums_loop {R : Rows} (hR : RowsFit R) {D : List Val} {c : Int} {b o : List Int} {s : List Int} {k0 k1 k2 k3 : Nat} (h1 : D.length = R.length) (hb : Fits b) (hin : AllIn R b) (hs : s.length = R.length) (hsin : ∀ x ∈ s, 0 ≤ x ∧ x < R.length)
  (hc : ∀ p ∈ R, 0 ≤ c ∧ c < p.2.length) (hcol : ∀ x : Int, 0 ≤ x ∧ x < R.length → colN (rowN R x) c = zV ∨ (colN (rowN R x) c).k = 2)
  {S : Nat → Val} (hat : ∀ (i : Nat) (hi : i < s.length), D[(s[i]).toNat]? = some (S i) ∧ Sum0 (S i) ∧ -1000000000000 ≤ (S i).i ∧ (S i).i ≤ 1000000000000)
  (h0 : ∀ h : 0 < s.length, S 0 = addS zV (colN (rowN R s[0]) c))
  (hsame : ∀ (i : Nat) (hi : i + 1 < s.length), keyI R b s[i] = keyI R b s[i + 1] → S (i + 1) = addS (S i) (colN (rowN R s[i + 1]) c))
  (hnew : ∀ (i : Nat) (hi : i + 1 < s.length), ¬ keyI R b s[i] = keyI R b s[i + 1] → S (i + 1) = addS zV (colN (rowN R s[i + 1]) c)) : ∀ i, i ≤ s.length → ∀ (t : Int) (u : Bool), t = (priorS S i).i → u = decide ((priorS S i).k = 2) →
  Run T (Res [.tmp 4] (.bool true)) (.inLoop X33.b0 :: X33.k0) (mkE 142 [(5, .bool true), (6, rowsA .lst R), (7, .ptr 1 4 0), (8, .ptr 3 4 0), (9, .ptr 4 4 0), (10, .int .i64 t), (11, .bool u), (12, .int .i64 i)]) [kO k0 k1 k2 k3, .cells false (winC 3 c .nil b .nil o), .dead, gotI s, gotC .lst D 0] := by
 have hR3 := hR.1
 refine up_ind ?_ fun i hi ih => ?_
 ·intro t u ht hu
  rw [run_round, run_unfold X33.b0.eq_1]
  simp (maxSteps := 2000000) only [go_sem, run_unfold X33.c0.eq_1, run_unfold X33.c1.eq_1, run_unfold X33.c2.eq_1, run_unfold X33.c3.eq_1, X33.k0]
 ·intro t u ht hu
  have hx := hsin _ (List.getElem_mem hi)
  obtain ⟨a1, a2, a3, a4⟩ := hat i hi
  have ih' := ih (S i).i (decide ((S i).k = 2)) rfl rfl
  have hxN : (s[i]).toNat < R.length := by omega
  have v1 := fun p (e : S i = p) => valAt hx.1 (e ▸ a1)
  have rx := rowAt hx
  have hcx := hc _ (List.getElem_mem hxN)
  rw [rowN_int hx] at hcx
  have cx := colAt (f := (rowP R s[i]).1) hcx
  have hvk := hcol _ hx
  have q0 : ¬ s[i] < 0 := by omega
  have q1 : ¬ (R.length : Int) ≤ s[i] := by omega
  by_cases hz : i = 0
  ·subst hz
   rw [run_round, run_unfold X33.b0.eq_1]
   have he := h0 hi
   have sx : ∀ σ : Sto, iaddrV 1 (ints .lst s) (.int .i64 0) σ = some (.fptr [.int .i64 s[0]], σ) := fun σ => @iaddrV_int' 1 .lst Int (fun n => .int .i64 n) s .i64 0 σ ⟨by omega, by omega⟩
   have hi' : (0 : Int) < s.length := by omega
   obtain rfl : t = 0 := ht
   obtain rfl : u = false := hu
   have w01 : IntKind.i64.wrap (0 + 1) = 1 := rfl
   have w00 : IntKind.i64.wrap (0 + 0) = 0 := rfl
   have z0 : zV.i = 0 := rfl
   have z1 : zV.k = 0 := rfl
   have z2 : zV.s = ⟨#[]⟩ := rfl
   generalize hxe : s[0] = x at hx v1 rx cx hvk q0 q1 sx he
   rcases hvk with hv | hv
   ·rw [hv, addS_null] at he
    rw [he] at a3 a4 ih'
    have v1' := v1 _ he
    rw [hv] at cx
    simp (maxSteps := 2000000) only [go_sem, hi, hi', sx, q0, q1, rx, cx, v1', X61_call, w00, w01, z0, z1, z2, run_unfold X33.c0.eq_1, run_unfold X33.c1.eq_1, run_unfold X33.c2.eq_1, run_unfold X33.c3.eq_1, X33.k0]
    exact ih'
   ·rw [addS_num hv (.inl rfl), z0] at he
    rw [he] at a3 a4 ih'
    have v1' := v1 _ he
    have hw : IntKind.i64.wrap (0 + (colN (rowN R x) c).i) = 0 + (colN (rowN R x) c).i := wrap_i64 (by simp only at a3 a4; omega) (by simp only at a3 a4; omega)
    simp (maxSteps := 2000000) only [go_sem, hi, hi', sx, q0, q1, rx, cx, v1', hv, hw, w01, X63_call, run_unfold X33.c0.eq_1, run_unfold X33.c1.eq_1, run_unfold X33.c2.eq_1, run_unfold X33.c3.eq_1, X33.k0]
    exact ih'
  ·obtain ⟨j, rfl⟩ : ∃ j, i = j + 1 := ⟨i - 1, by omega⟩
   rw [run_round, run_unfold X33.b0.eq_1]
   have hj : j < s.length := by omega
   have hy := hsin _ (List.getElem_mem hj)
   obtain ⟨b1, b2, b3, b4⟩ := hat j hj
   obtain rfl : t = (S j).i := ht
   obtain rfl : u = decide ((S j).k = 2) := hu
   have hs1 := hsame j hi
   have hs2 := hnew j hi
   have ry := rowAt hy
   have hyN : (s[j]).toNat < R.length := by omega
   have f1 := hin _ (List.getElem_mem hyN)
   have f2 := hin _ (List.getElem_mem hxN)
   have s1 := (hR.2 _ (List.getElem_mem hyN)).2
   have s2 := (hR.2 _ (List.getElem_mem hxN)).2
   rw [rowN_int hy] at f1 s1
   rw [rowN_int hx] at f2 s2
   have hc1 := fun f g => @X66_call f g .nil _ _ b hb f1 f2 s1 s2
   unfold keyI at hs1 hs2
   have ws := wrap_succ (show j + 1 < 9223372036854775807 by omega)
   generalize hye : s[j] = y at hy ry hc1 hs1 hs2
   generalize hxe : s[j + 1] = x at hx v1 rx hc1 hs1 hs2 q0 q1 cx hvk
   have hpos : (0 : Int) < ((j + 1 : Nat) : Int) := by omega
   have hpred : IntKind.i64.wrap (((j + 1 : Nat) : Int) - 1) = (j : Int) := by rw [wrap_i64 (by omega) (by omega)]; omega
   have hpred' : IntKind.i64.wrap ((j : Int) + 1 - 1) = (j : Int) := by rw [wrap_i64 (by omega) (by omega)]; omega
   have hposj : (0 : Int) < (j : Int) + 1 := by omega
   by_cases hk : pickC (rowN R y) b = pickC (rowN R x) b
   ·have hz : cmpR (pickC (rowN R y) b) (pickC (rowN R x) b) = 0 := cmpR_zero.2 hk
    have he := hs1 hk
    generalize hp : S j = p at b2 b3 b4 he
    rcases hvk with hv | hv
    ·rw [hv, addS_null] at he
     rw [he] at a3 a4 ih'
     have v1' := v1 _ he
     have hw : IntKind.i64.wrap (p.i + 0) = p.i := by rw [Int.add_zero]; exact wrap_i64 (by omega) (by omega)
     rw [hv] at cx
     rcases b2.cases with ⟨rfl, p2, p3⟩ | ⟨p1, p3⟩
     ·rw [p3] at ih'
      simp (maxSteps := 2000000) only [go_sem, hi, hj, ws, hpos, hposj, hpred, hpred', hp, hxe, hye, q0, q1, rx, ry, cx, hc1, hz, v1', p3, hw, X61_call, show zV.k = 0 from rfl, show zV.i = 0 from rfl, show zV.s = ⟨#[]⟩ from rfl, run_unfold X33.c0.eq_1, run_unfold X33.c1.eq_1, run_unfold X33.c2.eq_1, run_unfold X33.c3.eq_1, X33.k0]
      exact ih'
     ·rw [p3] at ih'
      rw [p1] at v1'
      simp (maxSteps := 2000000) only [go_sem, hi, hj, ws, hpos, hposj, hpred, hpred', hp, hxe, hye, q0, q1, rx, ry, cx, hc1, hz, v1', p3, hw, X63_call, show zV.k = 0 from rfl, show zV.i = 0 from rfl, show zV.s = ⟨#[]⟩ from rfl, run_unfold X33.c0.eq_1, run_unfold X33.c1.eq_1, run_unfold X33.c2.eq_1, run_unfold X33.c3.eq_1, X33.k0]
      exact ih'
    ·rw [addS_num hv b2] at he
     rw [he] at a3 a4 ih'
     have v1' := v1 _ he
     have hw : IntKind.i64.wrap (p.i + (colN (rowN R x) c).i) = p.i + (colN (rowN R x) c).i := wrap_i64 (by simp only at a3 a4; omega) (by simp only at a3 a4; omega)
     rcases b2.cases with ⟨p1, p2, p3⟩ | ⟨p1, p3⟩
     ·simp (maxSteps := 2000000) only [go_sem, hi, hj, ws, hpos, hposj, hpred, hpred', hp, hxe, hye, q0, q1, rx, ry, cx, hc1, hz, v1', p3, hv, hw, X63_call, run_unfold X33.c0.eq_1, run_unfold X33.c1.eq_1, run_unfold X33.c2.eq_1, run_unfold X33.c3.eq_1, X33.k0]
      exact ih'
     ·simp (maxSteps := 2000000) only [go_sem, hi, hj, ws, hpos, hposj, hpred, hpred', hp, hxe, hye, q0, q1, rx, ry, cx, hc1, hz, v1', p3, hv, hw, X63_call, run_unfold X33.c0.eq_1, run_unfold X33.c1.eq_1, run_unfold X33.c2.eq_1, run_unfold X33.c3.eq_1, X33.k0]
      exact ih'
   ·have hz : ¬ cmpR (pickC (rowN R y) b) (pickC (rowN R x) b) = 0 := fun h => hk (cmpR_zero.1 h)
    have he := hs2 hk
    rcases hvk with hv | hv
    ·rw [hv, addS_null] at he
     rw [he] at a3 a4 ih'
     have v1' := v1 _ he
     rw [hv] at cx
     simp (maxSteps := 2000000) only [go_sem, hi, hj, ws, hpos, hposj, hpred, hpred', hxe, hye, q0, q1, rx, ry, cx, hc1, hz, v1', X61_call, show IntKind.i64.wrap (0 + 0) = 0 from rfl, show zV.k = 0 from rfl, show zV.i = 0 from rfl, show zV.s = ⟨#[]⟩ from rfl, run_unfold X33.c0.eq_1, run_unfold X33.c1.eq_1, run_unfold X33.c2.eq_1, run_unfold X33.c3.eq_1, X33.k0]
     exact ih'
    ·rw [addS_num hv (.inl rfl), show zV.i = 0 from rfl] at he
     rw [he] at a3 a4 ih'
     have v1' := v1 _ he
     have hw : IntKind.i64.wrap (0 + (colN (rowN R x) c).i) = 0 + (colN (rowN R x) c).i := wrap_i64 (by simp only at a3 a4; omega) (by simp only at a3 a4; omega)
     simp (maxSteps := 2000000) only [go_sem, hi, hj, ws, hpos, hposj, hpred, hpred', hxe, hye, q0, q1, rx, ry, cx, hc1, hz, v1', hv, hw, X63_call, show zV.i = 0 from rfl, run_unfold X33.c0.eq_1, run_unfold X33.c1.eq_1, run_unfold X33.c2.eq_1, run_unfold X33.c3.eq_1, X33.k0]
     exact ih'

theorem X33_spec {f : SlF} {l : List B4} {q : B4} (hl : l.length < 9223372036854775808) (hlb : ∀ k ∈ l, B4Ok k) (hq : B4Ok q) {lv : List Nat} {σ : Sto} {R : Post} : Cw T true i_X33 [l4A f l, b4A q] lv σ R ↔ R (.bool true) σ := by
 refine cw_intro T_X33 (by simp only [go_sem]) (by simp) ?_; rw [run_unfold X33.main.eq_1]
 have hfit := mkRows_fit l
 obtain ⟨D, e1, l1⟩ := comp_made (l := l) (q := q) (kind := 3) (by omega)
 have hcol0 : ∀ x : Int, 0 ≤ x ∧ x < (mkRows l).length → (((colN (rowN (mkRows l) x) (winCol 3 q)).k = 0 ∨ (colN (rowN (mkRows l) x) (winCol 3 q)).k = 2) ∧ -10000000 ≤ (colN (rowN (mkRows l) x) (winCol 3 q)).i ∧ (colN (rowN (mkRows l) x) (winCol 3 q)).i ≤ 10000000) := fun x hx => by
  obtain ⟨k, hk⟩ := mkRows_row hx
  have := mkRow_col (k := k) (winCol3 q)
  rw [← hk] at this
  exact this
 have hcolz : ∀ x : Int, 0 ≤ x ∧ x < (mkRows l).length → colN (rowN (mkRows l) x) (winCol 3 q) = zV ∨ (colN (rowN (mkRows l) x) (winCol 3 q)).k = 2 := fun x hx => by
  obtain ⟨k, hk⟩ := mkRows_row hx
  rw [hk]
  rcases winCol3 q with e | e
  ·rw [e]; exact .inr rfl
  ·rw [e]
   have : colN (mkRow k) 1 = if k.2.1 % 5 = 0 then zV else numV (((k.2.1 % 7 : Nat) : Int) - 2) := rfl
   rw [this]
   split
   ·exact .inl rfl
   ·exact .inr rfl
 obtain ⟨S, hat, h0, hsame, hnew⟩ := sum_law hfit.1 e1 fun x hx => (hcol0 x hx).2
 have htb : tab (mkRows l) (winBy q ++ winOrd q) = true := mkRows_tab fun c hc => by
  rcases List.mem_append.1 hc with hc | hc
  ·exact takeC_in _ _ c hc
  ·exact takeC_in _ _ c hc
 have hin : AllIn (mkRows l) (winBy q) := (tab_in (mkRows_tab (l := l) (takeC_in _ _))).1
 have hc : ∀ p ∈ mkRows l, 0 ≤ winCol 3 q ∧ winCol 3 q < p.2.length := fun p hp => by
  rw [(mkRows_mem hp).1]; exact winCol_in 3 q
 have hb2 := winBy_len q
 have ho2 := winOrd_len q
 have hsl := sortI_len (mkRows l) (winBy q ++ winOrd q)
 have hloop := sums_loop (k0 := q.1) (k1 := q.2.1) (k2 := q.2.2.1) (k3 := q.2.2.2) (o := winOrd q) hfit l1 (show Fits (winBy q) by unfold Fits; omega) hin hsl (fun x hx => sortI_in hx) hc hcolz hat h0 hsame hnew 0 (by omega) 0 false rfl rfl
 have hord : orderI (mkRows l) (winBy q ++ winOrd q) = (sortI (mkRows l) (winBy q ++ winOrd q), 0) := by rw [orderI, if_pos htb]
 have hordf : orderF (mkRows l) (winBy q ++ winOrd q) = .lst := by rw [orderF, if_pos htb]
 have hoc := @X52_call .lst .lst (mkRows l) (winBy q ++ winOrd q) hfit (by simp; omega)
 rw [hord, hordf] at hoc
 simp (maxSteps := 2000000) only [go_sem, X60_call hl hlb, X62_call hq]
 rw [append0_ints rfl (by unfold maxBytes; omega)]
 simp (maxSteps := 2000000) only [go_sem]
 rw [appendFV_ints rfl (by unfold maxBytes; omega)]
 simp (maxSteps := 2000000) only [go_sem, hoc, X43_call hfit, e1, l1, hsl, fnd, Option.getD_some, run_unfold X33.c0.eq_1, run_unfold X33.c1.eq_1, run_unfold X33.c2.eq_1, run_unfold X33.c3.eq_1, X33.k0]
 exact hloop
@[go_sem] theorem X33_call {f : SlF} {l : List B4} {q : B4} (hl : l.length < 9223372036854775808) (hlb : ∀ k ∈ l, B4Ok k) (hq : B4Ok q) {Q : Post3} {k : List Item} {os : List AOper} {d : Option Nat} {e : Env} {σ : Sto} : CallK T Q k os d e σ true i_X33 [l4A f l, b4A q] ↔ Run T Q (.ops os :: k) (put e d (.bool true)) σ := X33_spec hl hlb hq

end Go.Abs
