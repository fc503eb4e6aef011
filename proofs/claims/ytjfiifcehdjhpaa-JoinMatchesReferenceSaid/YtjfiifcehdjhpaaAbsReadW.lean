/- What a caller hands in, read as the abstract machine's values, with what the weights premise says. -/
import Derived.Test.YtjfiifcehdjhpaaAbsLink
set_option linter.all false
set_option linter.unusedSectionVars false
namespace Go.Abs
open Go
variable [Inhabited Glob] [Lps]

abbrev wOk {H : Type} (P : Program) (t : TypeId) (d : DataW H) : Prop := (d.weights P t).all (· ≤ reachBytes) = true
theorem wAll_mem {H : Type} {P : Program} {e : TypeId} : ∀ {l : List (DataW H)}, (DataW.weightsAll P e l).all (· ≤ reachBytes) = true → ∀ d ∈ l, wOk P e d
 | [], _, d, h => by simp at h
 | x :: l, h, d, hd => by
  simp only [DataW.weightsAll, List.all_append, Bool.and_eq_true] at h
  rcases List.mem_cons.1 hd with rfl | hd
  ·exact h.1
  ·exact wAll_mem h.2 d hd
theorem wEach_get {H : Type} {P : Program} : ∀ {ts : List TypeId} {l : List (DataW H)}, (DataW.weightsEach P ts l).all (· ≤ reachBytes) = true → ∀ (i : Nat) t d, ts[i]? = some t → l[i]? = some d → wOk P t d
 | [], _, _, i, t, d, h, _ => by simp at h
 | _ :: _, [], _, i, t, d, _, h => by simp at h
 | t :: ts, x :: l, h, i, t', d, h1, h2 => by
  simp only [DataW.weightsEach, List.all_append, Bool.and_eq_true] at h
  cases i with
  | zero => simp at h1 h2; subst h1; subst h2; exact h.1
  | succ i => exact wEach_get h.2 i t' d (by simpa using h1) (by simpa using h2)

def ArgOkW (P : Program) : Nat → TypeId → AVal → Prop
 | 0, _, _ => False
 | n + 1, t, v =>
  match P.underlying t with
  | some .bool => ∃ b, v = .bool b
  | some (.int k) => ∃ m, v = .int k m ∧ (Lit.int k m).wf = true
  | some .string => ∃ s, v = .str s ∧ s.size ≤ maxLen ∧ s.size ≤ reachBytes
  | some (.slice e) => v = .nils ∨ ∃ xs, v = .list (P.cellsOf e) xs ∧ xs.length ≤ maxLen ∧ xs.length * P.bytesOf e ≤ reachBytes ∧ ∀ x ∈ xs, ArgOkW P n e x
  | some (.struct fs) => ∃ xs : List AVal, v = .agg (flatC xs) ∧ xs.length = fs.size ∧ ∀ (i : Nat) f x, fs[i]? = some f → xs[i]? = some x → ArgOkW P n f.type x ∧ x.cells.length = P.cellsOf f.type
  | some (.array m e) => ∃ xs : List AVal, v = .agg (flatC xs) ∧ xs.length = m ∧ ∀ x ∈ xs, ArgOkW P n e x ∧ x.cells.length = P.cellsOf e
  | _ => False

structure OpenedW (P : Program) (W : World) (n : Nat) (t : TypeId) (cs : List Value) (x : AVal) : Prop where
 ok : ArgOkW P n t x
 len : x.cells.length = P.cellsOf t
 one : ∀ c ∈ x.cells, c.one = true
 rel : CellsRel (frzAll W) noL x.cells cs

theorem segsW {P : Program} {W : World} {n : Nat} {cs : List Value} {tot : Nat} (htot : tot ≤ cs.length) : ∀ (l : List (Nat × Nat)) (ts : List TypeId) (o : Nat), ts.length = l.length → Consec o l tot →
  (∀ (i : Nat) (p : Nat × Nat) (t : TypeId), l[i]? = some p → ts[i]? = some t → p.2 = P.cellsOf t ∧ ∃ x, OpenedW P W n t ((cs.drop p.1).take p.2) x) →
  ∃ xs : List AVal, xs.length = l.length ∧ (∀ (i : Nat) t x, ts[i]? = some t → xs[i]? = some x → ArgOkW P n t x ∧ x.cells.length = P.cellsOf t) ∧ (∀ c ∈ flatC xs, c.one = true) ∧ CellsRel (frzAll W) noL (flatC xs) ((cs.drop o).take (tot - o))
 | [], ts, o, hl, hc, _ => by
  simp only [Consec] at hc; subst hc
  exact ⟨[], rfl, fun i t x _ h => by simp at h, fun c h => by simp [flatC] at h, by simp [CellsRel, flatC]⟩
 | (off, s) :: l, [], o, hl, _, _ => by simp at hl
 | (off, s) :: l, t :: ts, o, hl, hc, h => by
  obtain ⟨rfl, hc⟩ := hc
  obtain ⟨hs, x, hx⟩ := h 0 (off, s) t rfl rfl
  simp only at hs hx
  obtain ⟨xs, h1, h2, h3, h4⟩ := segsW htot l ts (off + s) (by simpa using hl) hc fun i p t' hp ht => h (i + 1) p t' (by simpa using hp) (by simpa using ht)
  refine ⟨x :: xs, by simp [h1], fun i t' x' ht hx' => ?_, fun c hcm => ?_, ?_⟩
  ·cases i with
   | zero => simp at ht hx'; subst ht; subst hx'; exact ⟨hx.ok, hx.len⟩
   | succ i => exact h2 i t' x' (by simpa using ht) (by simpa using hx')
  ·simp only [flatC, List.flatMap_cons, List.mem_append] at hcm
   rcases hcm with hcm | hcm
   ·exact hx.one c hcm
   ·exact h3 c hcm
  ·have hle := hc.le
   have e1 : (cs.drop off).take (tot - off) = (cs.drop off).take s ++ (cs.drop (off + s)).take (tot - (off + s)) := by
    rw [← List.drop_drop, ← List.take_add, show s + (tot - (off + s)) = tot - off by omega]
   rw [e1]
   exact hx.rel.append h4

theorem openedW_one {P : Program} {W : World} {n : Nat} {t : TypeId} {v : Value} {x : AVal} (hok : ArgOkW P n t x) (hl : P.cellsOf t = 1) (hc : x.cells = [x]) (ho : x.one = true) (hv : VRel (frzAll W) noL x v) : OpenedW P W n t [v] x :=
 ⟨hok, by rw [hc, hl]; rfl, fun c h => by rw [hc] at h; simp at h; subst h; exact ho, by
  rw [hc]
  exact ⟨rfl, fun i c h => by cases i with
   | zero => simp at h; subst h; exact hv
   | succ i => simp at h⟩⟩

theorem open_cellsW {H : Type} {enc : TypeId × Value → H} {P : Program} {W : World} {held : Bool} : ∀ (n : Nat) (t : TypeId), argT P n t = true → ∀ (fuel : Nat) (cs : List Value) (d : DataW H) (ps : List MemPlace),
  DataW.trod enc P W 0 (fun _ => true) held fuel t cs = some (d, ps) → wOk P t d → ∃ x, OpenedW P W n t cs x := by
 intro n
 induction n with
 | zero => intro t h; simp [argT] at h
 | succ n ih =>
  intro t h fuel cs d ps ht hw
  cases fuel with
  | zero => simp [DataW.trod] at ht
  | succ fuel =>
  unfold argT at h
  unfold DataW.trod at ht
  split at h
  ·rename_i hu
   simp only [hu] at ht
   split at ht <;> simp_all
   rename_i b
   exact ⟨.bool b, openedW_one (by simp only [ArgOkW, hu]; exact ⟨_, rfl⟩) h rfl rfl .bool⟩
  ·rename_i k hu
   simp only [hu] at ht
   split at ht <;> simp_all
   rename_i k2 k' m heq
   obtain ⟨⟨rfl, hwf⟩, _⟩ := ht
   exact ⟨.int _ m, openedW_one (by simp only [ArgOkW, hu]; exact ⟨_, rfl, hwf⟩) h rfl rfl .int⟩
  ·rename_i hu
   simp only [hu] at ht
   split at ht <;> simp_all
   rename_i s
   obtain ⟨h1, rfl, _⟩ := ht
   exact ⟨.str s, openedW_one (by simp only [ArgOkW, hu]; exact ⟨_, rfl, h1, by simpa using hw _ (by rw [DataW.weights]; exact List.mem_singleton.2 rfl)⟩) h rfl rfl .str⟩
  ·rename_i e hu
   simp only [Bool.and_eq_true, beq_iff_eq, decide_eq_true_eq] at h
   obtain ⟨⟨h1, h2⟩, hk⟩ := h
   simp only [hu] at ht
   split at ht
   all_goals first
    | (rename_i heq; injection heq with heq; cases heq; done)
    | skip
   ·exact ⟨.nils, openedW_one (by simp only [ArgOkW, hu]; exact .inl trivial) h1 rfl rfl .nils⟩
   ·rename_i e' a len cap heq
    injection heq with heq; injection heq with heq; subst heq
    split at ht
    case isFalse => simp at ht
    rename_i hc
    simp only [Option.bind_eq_some_iff] at ht
    obtain ⟨elems, hel, ht⟩ := ht
    simp only [Option.map_eq_some_iff] at ht
    obtain ⟨rest, _, ht⟩ := ht
    obtain ⟨rfl, _⟩ := Prod.mk.inj ht
    simp only [wOk, DataW.weights, hu, List.all_cons, List.all_append, Bool.and_eq_true, decide_eq_true_eq, List.length_map] at hw
    obtain ⟨hw1, hw2, _⟩ := hw
    have hw2 := wAll_mem hw2
    obtain ⟨g1, g2⟩ := mapM_some _ hel
    simp only [List.length_range] at g1
    have hex : ∀ i : Nat, i < len → ∃ x csi, (∀ j, j < P.cellsOf e → W.cell? ((a.add (i * P.cellsOf e)).add j) = some (csi.getD j undef)) ∧ OpenedW P W n e csi x := by
     intro i hi
     obtain ⟨y, hyl, hy⟩ := g2 i i (by simp [hi])
     simp only [Option.bind_eq_some_iff] at hy
     obtain ⟨csi, hcs, hy⟩ := hy
     obtain ⟨x, hx⟩ := ih e h2 fuel csi y.1 y.2 hy (hw2 _ (List.mem_map_of_mem (List.mem_of_getElem? hyl)))
     exact ⟨x, csi, (cells?_get hcs).2, hx⟩
    let f : Nat → AVal := fun i => if hi : i < len then (hex i hi).choose else .und
    let xs := (List.range len).map f
    have hxl : xs.length = len := by simp [xs]
    have hget : ∀ (i : Nat) x, xs[i]? = some x → ∃ csi, (∀ j, j < P.cellsOf e → W.cell? ((a.add (i * P.cellsOf e)).add j) = some (csi.getD j undef)) ∧ OpenedW P W n e csi x := by
     intro i x hx
     simp only [xs, List.getElem?_map, Option.map_eq_some_iff] at hx
     obtain ⟨i', hi', rfl⟩ := hx
     have hlt : i < len := by have := (List.getElem?_eq_some_iff.1 hi').1; simpa using this
     obtain rfl : i = i' := by rw [List.getElem?_range hlt] at hi'; exact Option.some.inj hi'
     simp only [f, dif_pos hlt]
     exact (hex i hlt).choose_spec
    have hmem : ∀ x ∈ xs, ∃ csi, OpenedW P W n e csi x := fun x hx => by
     obtain ⟨i, hi, rfl⟩ := List.mem_iff_getElem.1 hx
     obtain ⟨csi, _, h⟩ := hget i _ (List.getElem?_eq_getElem hi)
     exact ⟨csi, h⟩
    refine ⟨.list (P.cellsOf e) xs, openedW_one ?_ h1 rfl rfl ?_⟩
    ·simp only [ArgOkW, hu]
     exact .inr ⟨xs, rfl, by rw [hxl]; omega, by rw [hxl, ← g1]; exact Nat.le_trans (Nat.mul_le_mul_right _ (Nat.le_add_right _ _)) hw1, fun x hx => (hmem x hx).choose_spec.ok⟩
    ·have := slice_rel (W := W) hk (a := a) (xs := xs) (cap := cap) (by rw [hxl]; exact hc.2.1) (fun x hx => (hmem x hx).choose_spec.len) (fun x hx => (hmem x hx).choose_spec.one) fun i x hx => by
      obtain ⟨csi, q1, q2⟩ := hget i x hx
      exact ⟨csi, q1, q2.rel⟩
     rwa [hxl] at this
   all_goals simp_all
  ·rename_i fs hu
   rw [Bool.and_eq_true, List.all_eq_true] at h
   obtain ⟨h1, h2⟩ := h
   replace h2 := eq_of_beq h2
   simp only [hu] at ht
   split at ht
   case isFalse => simp at ht
   rename_i hlen
   simp only [Option.map_eq_some_iff] at ht
   obtain ⟨ys, hys, ht⟩ := ht
   obtain ⟨rfl, _⟩ := Prod.mk.inj ht
   simp only [wOk, DataW.weights, hu] at hw
   have hw := wEach_get hw
   obtain ⟨g1, g2⟩ := mapM_some _ hys
   obtain ⟨xs, x1, x2, x3, x4⟩ := segsW (P := P) (W := W) (n := n) (cs := cs) (tot := P.cellsOf t) (by omega) _ (fs.toList.map (·.type)) 0 (by simp) (consec_struct fs.toList 0 _ h2) fun i p t' hp ht' => by
    simp only [List.getElem?_map, Option.map_eq_some_iff] at hp ht'
    obtain ⟨f, hf, rfl⟩ := hp
    obtain ⟨f', hf', rfl⟩ := ht'
    obtain rfl : f = f' := Option.some.inj (hf.symm.trans hf')
    obtain ⟨y, hyl, hy⟩ := g2 i f hf
    exact ⟨rfl, ih f.type (h1 f (List.mem_of_getElem? hf)) fuel _ y.1 y.2 hy (hw i f.type y.1 (by simp [hf]) (by simp [hyl]))⟩
   refine ⟨.agg (flatC xs), ?_, ?_, x3, ?_⟩
   ·simp only [ArgOkW, hu]
    refine ⟨xs, rfl, by simpa using x1, fun i f x hf hx => x2 i f.type x ?_ hx⟩
    simp [hf]
   ·have := x4.1
    simp only [List.drop_zero, Nat.sub_zero, List.length_take] at this
    show (flatC xs).length = _
    omega
   ·have : (cs.drop 0).take (P.cellsOf t - 0) = cs := by simp [← hlen]
    rw [this] at x4; exact x4
  ·rename_i m e hu
   simp only [Bool.and_eq_true, beq_iff_eq] at h
   obtain ⟨h1, h2⟩ := h
   simp only [hu] at ht
   split at ht
   case isFalse => simp at ht
   rename_i hlen
   simp only [Option.map_eq_some_iff] at ht
   obtain ⟨ys, hys, ht⟩ := ht
   obtain ⟨rfl, _⟩ := Prod.mk.inj ht
   simp only [wOk, DataW.weights, hu] at hw
   have hw := wAll_mem hw
   obtain ⟨g1, g2⟩ := mapM_some _ hys
   have hcon := consec_array (k := P.cellsOf e) m 0
   rw [Nat.zero_mul, Nat.zero_add, ← List.range_eq_range'] at hcon
   obtain ⟨xs, x1, x2, x3, x4⟩ := segsW (P := P) (W := W) (n := n) (cs := cs) (tot := m * P.cellsOf e) (by omega) _ (List.replicate m e) 0 (by simp) hcon fun i p t' hp ht' => by
    simp only [List.getElem?_map, Option.map_eq_some_iff] at hp
    obtain ⟨i', hi', rfl⟩ := hp
    have hlt : i < m := by have := (List.getElem?_eq_some_iff.1 hi').1; simpa using this
    obtain rfl : i = i' := by rw [List.getElem?_range hlt] at hi'; exact Option.some.inj hi'
    rw [List.getElem?_replicate] at ht'
    simp only [hlt, if_true, Option.some.injEq] at ht'
    subst ht'
    obtain ⟨y, hyl, hy⟩ := g2 i i hi'
    exact ⟨rfl, ih e h1 fuel _ y.1 y.2 hy (hw _ (List.mem_map_of_mem (List.mem_of_getElem? hyl)))⟩
   refine ⟨.agg (flatC xs), ?_, ?_, x3, ?_⟩
   ·simp only [ArgOkW, hu]
    refine ⟨xs, rfl, by simpa using x1, fun x hx => ?_⟩
    obtain ⟨i, hi, rfl⟩ := List.mem_iff_getElem.1 hx
    exact x2 i e _ (by rw [List.getElem?_replicate]; simp at x1; simp [x1 ▸ hi]) (List.getElem?_eq_getElem hi)
   ·have := x4.1
    simp only [List.drop_zero, Nat.sub_zero, List.length_take] at this
    show (flatC xs).length = _
    omega
   ·have : (cs.drop 0).take (m * P.cellsOf e - 0) = cs := by simp [← h2, ← hlen]
    rw [this] at x4; exact x4
  ·simp at h

theorem open_valW {H : Type} {enc : TypeId × Value → H} {P : Program} {W : World} {held : Bool} {n : Nat} {t : TypeId} (ht : argT P n t = true) {v : Value} {d : DataW H} {ps : List MemPlace} {r : Reach} {base : Nat}
  (hok : Value.okWide P W r base t v) (h : DataW.Trod enc P W 0 (fun _ => true) held t v d ps) (hw : wOk P t d) : ∃ x, ArgOkW P n t x ∧ VRel (frzAll W) noL x v := by
 obtain ⟨fuel, h⟩ := h
 obtain ⟨x, hx⟩ := open_cellsW n t ht fuel _ d ps h hw
 refine ⟨x, hx.ok, ?_⟩
 have hag : ∀ {cs : List AVal}, x = .agg cs → (∃ cv, v = .agg cv) → VRel (frzAll W) noL x v := by
  rintro cs rfl ⟨cv, rfl⟩
  refine .agg ?_ fun i c hc => ?_
  ·have := hx.rel.1; simpa [Value.cells, AVal.cells] using this
  ·have := hx.rel.2 i c (by simpa [AVal.cells] using hc)
   rw [List.getD_eq_getElem?_getD] at this
   rw [Array.getD_eq_getD_getElem?]
   simpa [Value.cells] using this
 have hone : x.cells = [x] → (∀ cv, v ≠ .agg cv) → VRel (frzAll W) noL x v := by
  intro h1 h2
  have hv : v.cells = #[v] := by cases v <;> first | rfl | exact absurd rfl (h2 _)
  have := hx.rel.2 0 x (by rw [h1]; rfl)
  rw [hv] at this
  simpa using this
 have hok' := hx.ok
 cases n with
 | zero => simp [argT] at ht
 | succ n =>
 unfold argT at ht
 unfold ArgOkW at hok'
 unfold Value.okWide at hok
 split at ht
 all_goals first
  | (rename_i hu; simp only [hu] at hok hok')
  | skip
 ·obtain ⟨b, rfl⟩ := hok'
  exact hone rfl fun cv he => by subst he; simp [Cell.okWide, Cell.ok, *] at hok
 ·obtain ⟨b, rfl, _⟩ := hok'
  exact hone rfl fun cv he => by subst he; simp [Cell.okWide, Cell.ok, *] at hok
 ·obtain ⟨b, rfl, _⟩ := hok'
  exact hone rfl fun cv he => by subst he; simp [Cell.okWide, Cell.ok, *] at hok
 ·refine hone ?_ fun cv he => by subst he; simp [Cell.okWide, Cell.ok, *] at hok
  rcases hok' with rfl | ⟨xs, rfl, _⟩ <;> rfl
 ·obtain ⟨cv, rfl, _⟩ := hok
  obtain ⟨xs, rfl, _⟩ := hok'
  exact hag rfl ⟨_, rfl⟩
 ·obtain ⟨cv, rfl, _⟩ := hok
  obtain ⟨xs, rfl, _⟩ := hok'
  exact hag rfl ⟨_, rfl⟩

theorem open_argsW {H : Type} {enc : TypeId × Value → H} {P : Program} {W : World} {held : Bool} {n : Nat} {r : Reach} {base : Nat} : ∀ {ts : List TypeId} {vs : List Value} {ds : List (DataW H)} {ps : List MemPlace},
  DataW.TrodAll enc P W 0 (fun _ => true) held ts vs ds ps → (ts.all fun t => argT P n t) = true → (DataW.weightsEach P ts ds).all (· ≤ reachBytes) = true → (∀ (j : Nat) t v, ts[j]? = some t → vs[j]? = some v → Value.okWide P W r base t v) →
  ∃ xs : List AVal, xs.length = ts.length ∧ vs.length = ts.length ∧ ∀ (i : Nat) t x, ts[i]? = some t → xs[i]? = some x → ArgOkW P n t x ∧ VRel (frzAll W) noL x (vs.getD i undef)
 | [], [], [], _, _, _, _, _ => ⟨[], rfl, rfl, fun i t x h => by simp at h⟩
 | t :: ts, v :: vs, d :: ds, ps, h, ht, hw, hok => by
  obtain ⟨p, q, h1, h2, _⟩ := h
  simp only [List.all_cons, Bool.and_eq_true] at ht
  simp only [DataW.weightsEach, List.all_append, Bool.and_eq_true] at hw
  obtain ⟨x, x1, x2⟩ := open_valW ht.1 (hok 0 t v rfl rfl) h1 hw.1
  obtain ⟨xs, l1, l2, h3⟩ := open_argsW h2 ht.2 hw.2 fun j t' v' g1 g2 => hok (j + 1) t' v' (by simpa using g1) (by simpa using g2)
  refine ⟨x :: xs, by simp [l1], by simp [l2], fun i t' x' g1 g2 => ?_⟩
  cases i with
  | zero => simp at g1 g2; subst g1; subst g2; exact ⟨x1, by simpa using x2⟩
  | succ i => have := h3 i t' x' (by simpa using g1) (by simpa using g2); simpa using this
 | [], _ :: _, _, _, h, _, _, _ => h.elim
 | [], [], _ :: _, _, h, _, _, _ => h.elim
 | _ :: _, [], _, _, h, _, _, _ => h.elim
 | _ :: _, _ :: _, [], _, h, _, _, _ => h.elim


theorem ArgOkW.ok {P : Program} : ∀ {n : Nat} {t : TypeId} {x : AVal}, ArgOkW P n t x → ArgOk P n t x := by
 intro n
 induction n with
 | zero => intro t x h; exact h.elim
 | succ n ih =>
  intro t x h
  unfold ArgOkW at h
  unfold ArgOk
  split at h
  all_goals first
   | (rename_i hu; simp only [hu] at h ⊢)
   | skip
  ·exact h
  ·exact h
  ·obtain ⟨s, h1, h2, _⟩ := h
   exact ⟨s, h1, h2⟩
  ·rcases h with h | ⟨xs, h1, h2, _, h4⟩
   ·exact .inl h
   ·exact .inr ⟨xs, h1, h2, fun x hx => ih (h4 x hx)⟩
  ·obtain ⟨xs, h1, h2, h3⟩ := h
   exact ⟨xs, h1, h2, fun i f x g1 g2 => ⟨ih (h3 i f x g1 g2).1, (h3 i f x g1 g2).2⟩⟩
  ·obtain ⟨xs, h1, h2, h3⟩ := h
   exact ⟨xs, h1, h2, fun x g => ⟨ih (h3 x g).1, (h3 x g).2⟩⟩
end Go.Abs
