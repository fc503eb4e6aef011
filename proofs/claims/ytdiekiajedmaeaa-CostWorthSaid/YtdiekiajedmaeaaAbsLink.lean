/- The arguments of a law, opened. -/
import Derived.Test.YtdiekiajedmaeaaAbsRead
import GoSem.ClaimWide
import Derived.Carry
import Derived.ProofKit
set_option linter.all false
namespace Go.Abs
open Go
variable [Inhabited Glob] [Lps]

theorem ZoK {H : Type} {enc : TypeId × Value → H} {P : Program} {W : World} {held : Bool} {n : Nat} {t : TypeId} (ht : Zhl P n t = true) {v : Value} {d : DataW H} {ps : List MemPlace} {r : Reach} {base : Nat}
  (hok : Value.okWide P W r base t v) (h : DataW.Trod enc P W 0 (fun _ => true) held t v d ps) : ∃ x, ZaB P n t x ∧ VRel (Za6 W) noL x v := by
 obtain ⟨fuel, h⟩ := h
 obtain ⟨x, hx⟩ := ZkF n t ht fuel _ d ps h
 refine ⟨x, hx.ok, ?_⟩
 have hag : ∀ {cs : List AVal}, x = .agg cs → (∃ cv, v = .agg cv) → VRel (Za6 W) noL x v := by
  rintro cs rfl ⟨cv, rfl⟩
  refine .agg ?_ fun i c hc => ?_
  ·have := hx.rel.1; simpa [Value.cells, AVal.cells] using this
  ·have := hx.rel.2 i c (by simpa [AVal.cells] using hc)
   rw [List.getD_eq_getElem?_getD] at this
   rw [Array.getD_eq_getD_getElem?]
   simpa [Value.cells] using this
 have hone : x.cells = [x] → (∀ cv, v ≠ .agg cv) → VRel (Za6 W) noL x v := by
  intro h1 h2
  have hv : v.cells = #[v] := by cases v <;> first | rfl | exact absurd rfl (h2 _)
  have := hx.rel.2 0 x (by rw [h1]; rfl)
  rw [hv] at this
  simpa using this
 have hok' := hx.ok
 cases n with
 | zero => simp [Zhl] at ht
 | succ n =>
 unfold Zhl at ht
 unfold ZaB at hok'
 unfold Value.okWide at hok
 split at ht
 all_goals first
  | (rename_i hu; simp only [hu] at hok hok')
  | skip
 ·obtain ⟨b, rfl⟩ := hok'
  exact hone rfl fun cv he => by subst he; simp [Cell.okWide, Cell.ok, *] at hok
 ·obtain ⟨b, rfl, _⟩ := hok'
  exact hone rfl fun cv he => by subst he; simp [Cell.okWide, Cell.ok, *] at hok
 ·obtain ⟨b, rfl, _⟩ := hok'
  exact hone rfl fun cv he => by subst he; simp [Cell.okWide, Cell.ok, *] at hok
 ·refine hone ?_ fun cv he => by subst he; simp [Cell.okWide, Cell.ok, *] at hok
  rcases hok' with rfl | ⟨xs, rfl, _⟩ <;> rfl
 ·obtain ⟨cv, rfl, _⟩ := hok
  obtain ⟨xs, rfl, _⟩ := hok'
  exact hag rfl ⟨_, rfl⟩
 ·obtain ⟨cv, rfl, _⟩ := hok
  obtain ⟨xs, rfl, _⟩ := hok'
  exact hag rfl ⟨_, rfl⟩

theorem ZhO {H : Type} {enc : TypeId × Value → H} {P : Program} {W : World} {held : Bool} {n : Nat} {r : Reach} {base : Nat} : ∀ {ts : List TypeId} {vs : List Value} {ds : List (DataW H)} {ps : List MemPlace},
  DataW.TrodAll enc P W 0 (fun _ => true) held ts vs ds ps → (ts.all fun t => Zhl P n t) = true → (∀ (j : Nat) t v, ts[j]? = some t → vs[j]? = some v → Value.okWide P W r base t v) →
  ∃ xs : List AVal, xs.length = ts.length ∧ vs.length = ts.length ∧ ∀ (i : Nat) t x, ts[i]? = some t → xs[i]? = some x → ZaB P n t x ∧ VRel (Za6 W) noL x (vs.getD i undef)
 | [], [], [], _, _, _, _ => ⟨[], rfl, rfl, fun i t x h => by simp at h⟩
 | t :: ts, v :: vs, d :: ds, ps, h, ht, hok => by
  obtain ⟨p, q, h1, h2, _⟩ := h
  simp only [List.all_cons, Bool.and_eq_true] at ht
  obtain ⟨x, x1, x2⟩ := ZoK ht.1 (hok 0 t v rfl rfl) h1
  obtain ⟨xs, l1, l2, h3⟩ := ZhO h2 ht.2 fun j t' v' g1 g2 => hok (j + 1) t' v' (by simpa using g1) (by simpa using g2)
  refine ⟨x :: xs, by simp [l1], by simp [l2], fun i t' x' g1 g2 => ?_⟩
  cases i with
  | zero => simp at g1 g2; subst g1; subst g2; exact ⟨x1, by simpa using x2⟩
  | succ i => have := h3 i t' x' (by simpa using g1) (by simpa using g2); simpa using this
 | [], _ :: _, _, _, h, _, _ => h.elim
 | [], [], _ :: _, _, h, _, _ => h.elim
 | _ :: _, [], _, _, h, _, _ => h.elim
 | _ :: _, _ :: _, [], _, h, _, _ => h.elim

theorem Zd8 {H : Type} {enc : TypeId × Value → H} {P : Program} (hl : laidOutB P = true) {W W' : World} (hb : Go.RowKit.Below W.heap.size W W') : ∀ {ts : List TypeId} {vs : List Value} {ds : List (DataW H)} {ps : List MemPlace},
  (ts.all fun t => P.readableRec t && decide (t < P.types.size)) = true → DataW.TrodAll enc P W 0 (fun _ => true) true ts vs ds ps → DataW.TrodAll enc P W' 0 (fun b => decide (b < W.heap.size)) true ts vs ds ps
 | [], [], [], _, _, h => h
 | t :: ts, v :: vs, d :: ds, ps, ht, h => by
  obtain ⟨p, q, h1, h2, h3⟩ := h
  simp only [List.all_cons, Bool.and_eq_true, decide_eq_true_eq] at ht
  refine ⟨p, q, Go.RowKit.Below.trod hl ht.1.1 ht.1.2 h1 hb ?_, Zd8 hl hb ht.2 h2, h3⟩
  obtain ⟨m, hm⟩ := h1
  exact DataW.trod_lt m _ _ _ hm
 | [], _ :: _, _, _, _, h => h.elim
 | [], [], _ :: _, _, _, h => h.elim
 | _ :: _, [], _, _, _, h => h.elim
 | _ :: _, _ :: _, [], _, _, h => h.elim

theorem ZfQ {H : Type} {enc : TypeId × Value → H} {P : Program} {W : World} {b0 : Nat} {f : Nat → Bool} {held : Bool} : ∀ {ts : List TypeId} {vs : List Value} {ds : List (DataW H)} {ps : List MemPlace}, DataW.TrodAll enc P W b0 f held ts vs ds ps → ds.length = ts.length
 | [], [], [], _, _ => rfl
 | t :: ts, v :: vs, d :: ds, ps, h => by
  obtain ⟨p, q, h1, h2, h3⟩ := h
  simp [ZfQ h2]
 | [], _ :: _, _, _, h => h.elim
 | [], [], _ :: _, _, h => h.elim
 | _ :: _, [], _, _, h => h.elim
 | _ :: _, _ :: _, [], _, h => h.elim

end Go.Abs
