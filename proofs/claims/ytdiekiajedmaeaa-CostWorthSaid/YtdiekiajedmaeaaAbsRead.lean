/- What a caller hands in, read as the abstract machine's values. -/
import Derived.Test.YtdiekiajedmaeaaJAbsCode
import GoSem.ClaimChange
import Derived.Below
set_option linter.all false
namespace Go.Abs
open Go
variable [Inhabited Glob] [Lps]

def Za6 (W : World) : Frz where
 cells b off := W.cell? ⟨b, off, none⟩
 maps r := match W.heap[r]? with
  | some (.map es _) => some (es.toList.map fun e => (e.key, e.val))
  | _ => none

theorem ZpX (W : World) (hg : Ziv (Za6 W)) : Inv (Za6 W) noL [] W where
 fz _ _ _ h := h
 fm r kv h := by
  simp only [Za6] at h
  split at h
  ·rename_i es c hh
   obtain rfl := Option.some.inj h
   exact ⟨es, c, hh, rfl⟩
  ·simp at h
 obj o loc gen h := by simp [noL] at h
 lt o h := absurd rfl h
 inj o o' l l' g g' b h := by simp [noL] at h
 sep b hb := absurd hb (ZaE b)
 dd o h := by simp [noL] at h
 gl := hg

def Zhl (P : Program) : Nat → TypeId → Bool
 | 0, _ => false
 | n + 1, t =>
  match P.underlying t with
  | some .bool | some (.int _) | some .string => P.cellsOf t == 1
  | some (.slice e) => P.cellsOf t == 1 && Zhl P n e && decide (0 < P.cellsOf e)
  | some (.struct fs) => fs.toList.all (fun f => Zhl P n f.type) && (fs.toList.foldl (fun (acc : Option Nat) f => acc.bind fun o => if f.offset == o then some (o + P.cellsOf f.type) else none) (some 0) == some (P.cellsOf t))
  | some (.array m e) => Zhl P n e && P.cellsOf t == m * P.cellsOf e
  | _ => false

def ZaB (P : Program) : Nat → TypeId → AVal → Prop
 | 0, _, _ => False
 | n + 1, t, v =>
  match P.underlying t with
  | some .bool => ∃ b, v = .bool b
  | some (.int k) => ∃ m, v = .int k m ∧ (Lit.int k m).wf = true
  | some .string => ∃ s, v = .str s ∧ s.size ≤ maxLen
  | some (.slice e) => v = .nils ∨ ∃ xs, v = .list (P.cellsOf e) xs ∧ xs.length ≤ maxLen ∧ ∀ x ∈ xs, ZaB P n e x
  | some (.struct fs) => ∃ xs : List AVal, v = .agg (ZV xs) ∧ xs.length = fs.size ∧ ∀ (i : Nat) f x, fs[i]? = some f → xs[i]? = some x → ZaB P n f.type x ∧ x.cells.length = P.cellsOf f.type
  | some (.array m e) => ∃ xs : List AVal, v = .agg (ZV xs) ∧ xs.length = m ∧ ∀ x ∈ xs, ZaB P n e x ∧ x.cells.length = P.cellsOf e
  | _ => False

structure Opened (P : Program) (W : World) (n : Nat) (t : TypeId) (cs : List Value) (x : AVal) : Prop where
 ok : ZaB P n t x
 len : x.cells.length = P.cellsOf t
 one : ∀ c ∈ x.cells, c.one = true
 rel : Ze (Za6 W) noL x.cells cs

def ZcG : Nat → List (Nat × Nat) → Nat → Prop
 | o, [], tot => o = tot
 | o, (off, s) :: l, tot => off = o ∧ ZcG (o + s) l tot

theorem ZcG.le : ∀ {l : List (Nat × Nat)} {o tot : Nat}, ZcG o l tot → o ≤ tot
 | [], _, _, h => Nat.le_of_eq h
 | (_, _) :: _, _, _, h => Nat.le_trans (Nat.le_add_right _ _) h.2.le

theorem ZrA {P : Program} {W : World} {n : Nat} {cs : List Value} {tot : Nat} (htot : tot ≤ cs.length) : ∀ (l : List (Nat × Nat)) (ts : List TypeId) (o : Nat), ts.length = l.length → ZcG o l tot →
  (∀ (i : Nat) (p : Nat × Nat) (t : TypeId), l[i]? = some p → ts[i]? = some t → p.2 = P.cellsOf t ∧ ∃ x, Opened P W n t ((cs.drop p.1).take p.2) x) →
  ∃ xs : List AVal, xs.length = l.length ∧ (∀ (i : Nat) t x, ts[i]? = some t → xs[i]? = some x → ZaB P n t x ∧ x.cells.length = P.cellsOf t) ∧ (∀ c ∈ ZV xs, c.one = true) ∧ Ze (Za6 W) noL (ZV xs) ((cs.drop o).take (tot - o))
 | [], ts, o, hl, hc, _ => by
  simp only [ZcG] at hc; subst hc
  exact ⟨[], rfl, fun i t x _ h => by simp at h, fun c h => by simp [ZV] at h, by simp [Ze, ZV]⟩
 | (off, s) :: l, [], o, hl, _, _ => by simp at hl
 | (off, s) :: l, t :: ts, o, hl, hc, h => by
  obtain ⟨rfl, hc⟩ := hc
  obtain ⟨hs, x, hx⟩ := h 0 (off, s) t rfl rfl
  simp only at hs hx
  obtain ⟨xs, h1, h2, h3, h4⟩ := ZrA htot l ts (off + s) (by simpa using hl) hc fun i p t' hp ht => h (i + 1) p t' (by simpa using hp) (by simpa using ht)
  refine ⟨x :: xs, by simp [h1], fun i t' x' ht hx' => ?_, fun c hcm => ?_, ?_⟩
  ·cases i with
   | zero => simp at ht hx'; subst ht; subst hx'; exact ⟨hx.ok, hx.len⟩
   | succ i => exact h2 i t' x' (by simpa using ht) (by simpa using hx')
  ·simp only [ZV, List.flatMap_cons, List.mem_append] at hcm
   rcases hcm with hcm | hcm
   ·exact hx.one c hcm
   ·exact h3 c hcm
  ·have hle := hc.le
   have e1 : (cs.drop off).take (tot - off) = (cs.drop off).take s ++ (cs.drop (off + s)).take (tot - (off + s)) := by
    rw [← List.drop_drop, ← List.take_add, show s + (tot - (off + s)) = tot - off by omega]
   rw [e1]
   exact hx.rel.append h4

theorem Zcl {P : Program} {W : World} {n : Nat} {t : TypeId} {v : Value} {x : AVal} (hok : ZaB P n t x) (hl : P.cellsOf t = 1) (hc : x.cells = [x]) (ho : x.one = true) (hv : VRel (Za6 W) noL x v) : Opened P W n t [v] x :=
 ⟨hok, by rw [hc, hl]; rfl, fun c h => by rw [hc] at h; simp at h; subst h; exact ho, by
  rw [hc]
  exact ⟨rfl, fun i c h => by cases i with
   | zero => simp at h; subst h; exact hv
   | succ i => simp at h⟩⟩

theorem Zd9 {P : Program} : ∀ (l : List Field) (o tot : Nat), l.foldl (fun (acc : Option Nat) f => acc.bind fun o => if f.offset == o then some (o + P.cellsOf f.type) else none) (some o) = some tot → ZcG o (l.map fun f => (f.offset, P.cellsOf f.type)) tot
 | [], o, tot, h => by simpa [ZcG] using h
 | f :: l, o, tot, h => by
  simp only [List.foldl_cons, Option.bind_some] at h
  split at h
  ·rename_i ho
   exact ⟨by simpa using ho, Zd9 l _ tot h⟩
  ·have hn : ∀ (l : List Field), l.foldl (fun (acc : Option Nat) f => acc.bind fun o => if f.offset == o then some (o + P.cellsOf f.type) else none) none = none := by
    intro l; induction l with
    | nil => rfl
    | cons f l ih => simpa using ih
   rw [hn] at h; simp at h

theorem ZeY {k : Nat} : ∀ (m i : Nat), ZcG (i * k) ((List.range' i m).map fun j => (j * k, k)) ((i + m) * k)
 | 0, i => by simp [ZcG]
 | m + 1, i => by
  simp only [List.range'_succ, List.map_cons, ZcG, true_and]
  have := ZeY (k := k) m (i + 1)
  rw [show i * k + k = (i + 1) * k by rw [Nat.succ_mul], show i + (m + 1) = i + 1 + m by omega]; exact this

theorem Zmn {W : World} {k : Nat} (hk : 0 < k) {a : Addr} {xs : List AVal} {cap : Nat} (hc : xs.length ≤ cap) (hl : ∀ x ∈ xs, x.cells.length = k) (ho : ∀ x ∈ xs, ∀ c ∈ x.cells, c.one = true)
  (h : ∀ (i : Nat) x, xs[i]? = some x → ∃ csi : List Value, (∀ j, j < k → W.cell? ((a.add (i * k)).add j) = some (csi.getD j undef)) ∧ Ze (Za6 W) noL x.cells csi) :
  VRel (Za6 W) noL (.list k xs) (.slice (some a) xs.length cap) := by
 have hsp : xs ≠ [] → a.spot = none := by
  intro hne
  cases xs with
  | nil => exact absurd rfl hne
  | cons x xs =>
   obtain ⟨csi, h1, _⟩ := h 0 x rfl
   have := h1 0 hk
   rw [Nat.zero_mul] at this
   simp only [Addr.add, if_pos] at this
   unfold World.cell? at this
   split at this
   ·split at this
    ·simp at this
    ·rename_i hs; simpa using hs
   ·simp at this
 have hpos : ∀ p c, (ZV xs)[p]? = some c → ∃ i x j, xs[i]? = some x ∧ j < k ∧ p = i * k + j ∧ x.cells[j]? = some c := by
  intro p c hp
  have hlen : (ZV xs).length = xs.length * k := ZeP hl
  have hlt : p < xs.length * k := by rw [← hlen]; exact (List.getElem?_eq_some_iff.1 hp).1
  have hi : p / k < xs.length := by rw [Nat.div_lt_iff_lt_mul hk]; exact hlt
  have hj := Nat.mod_lt p hk
  have hx := List.getElem?_eq_getElem hi
  have hcl : p % k < xs[p / k].cells.length := by rw [hl _ (List.getElem_mem hi)]; exact hj
  refine ⟨p / k, xs[p / k], p % k, hx, hj, ?_, ?_⟩
  ·have := Nat.div_add_mod p k; rw [Nat.mul_comm] at this; exact this.symm
  ·have hg := ZcO hl hx (List.getElem?_eq_getElem hcl)
   have e1 : p / k * k + p % k = p := by have := Nat.div_add_mod p k; rw [Nat.mul_comm] at this; exact this
   rw [e1, hp] at hg
   rw [List.getElem?_eq_getElem hcl]; exact hg.symm
 have hcell : ∀ p c, (ZV xs)[p]? = some c → ∃ u, W.cell? ⟨a.block, a.off + p, none⟩ = some u ∧ VRel (Za6 W) noL c u := by
  intro p c hp
  obtain ⟨i, x, j, hx, hj, rfl, hcx⟩ := hpos p c hp
  obtain ⟨csi, h1, h2⟩ := h i x hx
  have hs := hsp (fun he => by subst he; simp at hx)
  have hw := h1 j hj
  rw [Addr.add_plain hs, Addr.add_plain rfl] at hw
  exact ⟨_, by rw [← Nat.add_assoc]; exact hw, h2.2 j c hcx⟩
 refine .list (fv := fun p => (W.cell? ⟨a.block, a.off + p, none⟩).getD undef) hsp hc hl (fun p c hp => ?_) (fun p c hp => ?_) fun p c hp => ?_
 ·obtain ⟨u, hu, _⟩ := hcell p c hp
  show W.cell? _ = _
  rw [hu]; rfl
 ·obtain ⟨i, x, j, hx, _, _, hcx⟩ := hpos p c hp
  exact ho x (List.mem_of_getElem? hx) c (List.mem_of_getElem? hcx)
 ·obtain ⟨u, hu, hv⟩ := hcell p c hp
  rw [hu]; exact hv

theorem cells?_get {W : World} {a : Addr} {n : Nat} {cs : List Value} (h : W.cells? 0 a n = some cs) : cs.length = n ∧ ∀ j, j < n → W.cell? (a.add j) = some (cs.getD j undef) := by
 unfold World.cells? at h
 rw [if_pos (Nat.zero_le _)] at h
 obtain ⟨h1, h2⟩ := ZC _ h
 refine ⟨by simpa using h1, fun j hj => ?_⟩
 obtain ⟨y, hy, hw⟩ := h2 j j (by simp [hj])
 rw [hw, List.getD_eq_getElem?_getD, hy]; rfl

theorem ZkF {H : Type} {enc : TypeId × Value → H} {P : Program} {W : World} {held : Bool} : ∀ (n : Nat) (t : TypeId), Zhl P n t = true → ∀ (fuel : Nat) (cs : List Value) (d : DataW H) (ps : List MemPlace),
  DataW.trod enc P W 0 (fun _ => true) held fuel t cs = some (d, ps) → ∃ x, Opened P W n t cs x := by
 intro n
 induction n with
 | zero => intro t h; simp [Zhl] at h
 | succ n ih =>
  intro t h fuel cs d ps ht
  cases fuel with
  | zero => simp [DataW.trod] at ht
  | succ fuel =>
  unfold Zhl at h
  unfold DataW.trod at ht
  split at h
  ·rename_i hu
   simp only [hu] at ht
   split at ht <;> simp_all
   rename_i b
   exact ⟨.bool b, Zcl (by simp only [ZaB, hu]; exact ⟨_, rfl⟩) h rfl rfl .bool⟩
  ·rename_i k hu
   simp only [hu] at ht
   split at ht <;> simp_all
   rename_i k2 k' m heq
   obtain ⟨⟨rfl, hwf⟩, _⟩ := ht
   exact ⟨.int _ m, Zcl (by simp only [ZaB, hu]; exact ⟨_, rfl, hwf⟩) h rfl rfl .int⟩
  ·rename_i hu
   simp only [hu] at ht
   split at ht <;> simp_all
   rename_i s
   exact ⟨.str s, Zcl (by simp only [ZaB, hu]; exact ⟨_, rfl, ht.1⟩) h rfl rfl .str⟩
  ·rename_i e hu
   simp only [Bool.and_eq_true, beq_iff_eq, decide_eq_true_eq] at h
   obtain ⟨⟨h1, h2⟩, hk⟩ := h
   simp only [hu] at ht
   split at ht
   all_goals first
    | (rename_i heq; injection heq with heq; cases heq; done)
    | skip
   ·exact ⟨.nils, Zcl (by simp only [ZaB, hu]; exact .inl trivial) h1 rfl rfl .nils⟩
   ·rename_i e' a len cap heq
    injection heq with heq; injection heq with heq; subst heq
    split at ht
    case isFalse => simp at ht
    rename_i hc
    simp only [Option.bind_eq_some_iff] at ht
    obtain ⟨elems, hel, _⟩ := ht
    obtain ⟨g1, g2⟩ := ZC _ hel
    simp only [List.length_range] at g1
    have hex : ∀ i : Nat, i < len → ∃ x csi, (∀ j, j < P.cellsOf e → W.cell? ((a.add (i * P.cellsOf e)).add j) = some (csi.getD j undef)) ∧ Opened P W n e csi x := by
     intro i hi
     obtain ⟨y, _, hy⟩ := g2 i i (by simp [hi])
     simp only [Option.bind_eq_some_iff] at hy
     obtain ⟨csi, hcs, hy⟩ := hy
     obtain ⟨x, hx⟩ := ih e h2 fuel csi y.1 y.2 hy
     exact ⟨x, csi, (cells?_get hcs).2, hx⟩
    let f : Nat → AVal := fun i => if hi : i < len then (hex i hi).choose else .und
    let xs := (List.range len).map f
    have hxl : xs.length = len := by simp [xs]
    have hget : ∀ (i : Nat) x, xs[i]? = some x → ∃ csi, (∀ j, j < P.cellsOf e → W.cell? ((a.add (i * P.cellsOf e)).add j) = some (csi.getD j undef)) ∧ Opened P W n e csi x := by
     intro i x hx
     simp only [xs, List.getElem?_map, Option.map_eq_some_iff] at hx
     obtain ⟨i', hi', rfl⟩ := hx
     have hlt : i < len := by have := (List.getElem?_eq_some_iff.1 hi').1; simpa using this
     obtain rfl : i = i' := by rw [List.getElem?_range hlt] at hi'; exact Option.some.inj hi'
     simp only [f, dif_pos hlt]
     exact (hex i hlt).choose_spec
    have hmem : ∀ x ∈ xs, ∃ csi, Opened P W n e csi x := fun x hx => by
     obtain ⟨i, hi, rfl⟩ := List.mem_iff_getElem.1 hx
     obtain ⟨csi, _, h⟩ := hget i _ (List.getElem?_eq_getElem hi)
     exact ⟨csi, h⟩
    refine ⟨.list (P.cellsOf e) xs, Zcl ?_ h1 rfl rfl ?_⟩
    ·simp only [ZaB, hu]
     exact .inr ⟨xs, rfl, by rw [hxl]; omega, fun x hx => (hmem x hx).choose_spec.ok⟩
    ·have := Zmn (W := W) hk (a := a) (xs := xs) (cap := cap) (by rw [hxl]; exact hc.2.1) (fun x hx => (hmem x hx).choose_spec.len) (fun x hx => (hmem x hx).choose_spec.one) fun i x hx => by
      obtain ⟨csi, q1, q2⟩ := hget i x hx
      exact ⟨csi, q1, q2.rel⟩
     rwa [hxl] at this
   all_goals simp_all
  ·rename_i fs hu
   rw [Bool.and_eq_true, List.all_eq_true] at h
   obtain ⟨h1, h2⟩ := h
   replace h2 := eq_of_beq h2
   simp only [hu] at ht
   split at ht
   case isFalse => simp at ht
   rename_i hlen
   simp only [Option.map_eq_some_iff] at ht
   obtain ⟨ys, hys, _⟩ := ht
   obtain ⟨g1, g2⟩ := ZC _ hys
   obtain ⟨xs, x1, x2, x3, x4⟩ := ZrA (P := P) (W := W) (n := n) (cs := cs) (tot := P.cellsOf t) (by omega) _ (fs.toList.map (·.type)) 0 (by simp) (Zd9 fs.toList 0 _ h2) fun i p t' hp ht' => by
    simp only [List.getElem?_map, Option.map_eq_some_iff] at hp ht'
    obtain ⟨f, hf, rfl⟩ := hp
    obtain ⟨f', hf', rfl⟩ := ht'
    obtain rfl : f = f' := Option.some.inj (hf.symm.trans hf')
    obtain ⟨y, _, hy⟩ := g2 i f hf
    exact ⟨rfl, ih f.type (h1 f (List.mem_of_getElem? hf)) fuel _ y.1 y.2 hy⟩
   refine ⟨.agg (ZV xs), ?_, ?_, x3, ?_⟩
   ·simp only [ZaB, hu]
    refine ⟨xs, rfl, by simpa using x1, fun i f x hf hx => x2 i f.type x ?_ hx⟩
    simp [hf]
   ·have := x4.1
    simp only [List.drop_zero, Nat.sub_zero, List.length_take] at this
    show (ZV xs).length = _
    omega
   ·have : (cs.drop 0).take (P.cellsOf t - 0) = cs := by simp [← hlen]
    rw [this] at x4; exact x4
  ·rename_i m e hu
   simp only [Bool.and_eq_true, beq_iff_eq] at h
   obtain ⟨h1, h2⟩ := h
   simp only [hu] at ht
   split at ht
   case isFalse => simp at ht
   rename_i hlen
   simp only [Option.map_eq_some_iff] at ht
   obtain ⟨ys, hys, _⟩ := ht
   obtain ⟨g1, g2⟩ := ZC _ hys
   have hcon := ZeY (k := P.cellsOf e) m 0
   rw [Nat.zero_mul, Nat.zero_add, ← List.range_eq_range'] at hcon
   obtain ⟨xs, x1, x2, x3, x4⟩ := ZrA (P := P) (W := W) (n := n) (cs := cs) (tot := m * P.cellsOf e) (by omega) _ (List.replicate m e) 0 (by simp) hcon fun i p t' hp ht' => by
    simp only [List.getElem?_map, Option.map_eq_some_iff] at hp
    obtain ⟨i', hi', rfl⟩ := hp
    have hlt : i < m := by have := (List.getElem?_eq_some_iff.1 hi').1; simpa using this
    obtain rfl : i = i' := by rw [List.getElem?_range hlt] at hi'; exact Option.some.inj hi'
    rw [List.getElem?_replicate] at ht'
    simp only [hlt, if_true, Option.some.injEq] at ht'
    subst ht'
    obtain ⟨y, _, hy⟩ := g2 i i hi'
    exact ⟨rfl, ih e h1 fuel _ y.1 y.2 hy⟩
   refine ⟨.agg (ZV xs), ?_, ?_, x3, ?_⟩
   ·simp only [ZaB, hu]
    refine ⟨xs, rfl, by simpa using x1, fun x hx => ?_⟩
    obtain ⟨i, hi, rfl⟩ := List.mem_iff_getElem.1 hx
    exact x2 i e _ (by rw [List.getElem?_replicate]; simp at x1; simp [x1 ▸ hi]) (List.getElem?_eq_getElem hi)
   ·have := x4.1
    simp only [List.drop_zero, Nat.sub_zero, List.length_take] at this
    show (ZV xs).length = _
    omega
   ·have : (cs.drop 0).take (m * P.cellsOf e - 0) = cs := by simp [← h2, ← hlen]
    rw [this] at x4; exact x4
  ·simp at h

theorem ZjH {P : Program} (hmix : P.follows .mixedOrders = true) {T : FuncId → Option AFunc} (hT : ∀ f af, T f = some af → Zo P f af) {n : Nat} {f : FuncId} {args : List AVal} {W : World} {cargs : Array Value}
  (h : ZD T n false f args [] [] fun v _ => v = .bool true) (har : ZK (Za6 W) noL args cargs) (hg : Ziv (Za6 W)) (hfy : ZeJ (.func f) = true := by rfl) (hlp : Zl4 P := by exact fun _ _ _ => Iff.rfl) (hTy : T Zag = none := by rfl) : Calls P f cargs W fun e w' => e = .returned (.bool true) ∧ Go.RowKit.Below W.heap.size W w' := by
 refine ((ZjA hmix hlp hTy hT n).1.calls h hfy har (ZpX W hg) (fun o ho => by simp at ho) (fun l hl => by simp at hl)).2.mono ?_
 rintro e w' ⟨v, cv, σ', F', L', rfl, rfl, hv, _, _, _, hA⟩
 refine ⟨?_, hA.os, hA.tape, hA.output, hA.size, fun k hk => hA.keep k hk (ZaE k)⟩
 cases hv; rfl

end Go.Abs
