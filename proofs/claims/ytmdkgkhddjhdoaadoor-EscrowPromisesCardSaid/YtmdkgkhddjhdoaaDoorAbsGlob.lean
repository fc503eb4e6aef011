/- A package's table of two functions: what its listing says of the memory. -/
import Derived.Test.YtmdkgkhddjhdoaaDoorAbsRead
import Derived.LaidHandle
set_option linter.all false
namespace Go.Abs
open Go
variable [Inhabited Glob]

theorem key_int {P : Program} {k : TypeId} {q : IntKind} (hk : P.underlying k = some (.int q)) {v : Value} {l : Lit} (h : keyOf P k v = some l) : ∃ n, v = .int q n ∧ l = .int q n := by
  unfold keyOf at h
  simp only [hk] at h
  unfold mapKey at h
  simp only [hk] at h
  split at h
  all_goals simp_all

theorem insert_len {H : Type} (x : Lit × DataW H) : ∀ (l : List (Lit × DataW H)), (DataW.insert x l).length = l.length + 1
  | [] => rfl
  | y :: r => by
    unfold DataW.insert
    split
    · rfl
    · simp [insert_len x r]
theorem sort_len {H : Type} : ∀ (l : List (Lit × DataW H)), (l.foldr DataW.insert []).length = l.length
  | [] => rfl
  | x :: r => by rw [List.foldr_cons, insert_len, sort_len r]; rfl

theorem fn_val {P : Program} {W : World} {et : TypeId} {a : Array TypeId} {b : Array TypeId} {c : Bool} (he : P.underlying et = some (.func a b c)) {v : Value} (hf : v.formed P et = true) {fuel : Nat} {sp : Nat → Bool} {x : UInt8} {r : List UInt8} {ps : List MemPlace}
    (h : DataW.trod (funcToken P) P W 0 sp true fuel et v.cells.toList = some (.held (x :: r), ps)) : ∃ f fn, v = .func (.func f) #[] #[] ∧ P.funcs[f]? = some fn ∧ P.funcNamed fn.name = some f ∧ fn.name.toUTF8.data.toList = x :: r := by
  have hc : v.cells = #[v] := by
    unfold Value.formed at hf
    cases v <;> first | rfl | (simp [he] at hf; done)
  rw [hc] at h
  cases fuel with
  | zero => simp [DataW.trod] at h
  | succ fuel =>
    unfold DataW.trod at h
    simp only [he] at h
    cases v <;> simp at h
    obtain ⟨h1, _⟩ := h
    exact funcToken_tells h1

/-- two numbers, two functions: what is in the memory -/
theorem table_two {P : Program} {W : World} {n : String} {g : Nat} {t kt et : TypeId} {a b : Array TypeId} {c : Bool} {q : IntKind} (hg : P.globalNamed n = some g) (ht : (P.globals[g]?).map (·.type) = some t)
    (hu : P.underlying t = some (.map kt et)) (hk : P.underlying kt = some (.int q)) (he : P.underlying et = some (.func a b c)) {n1 n2 : Int} (hne : n1 ≠ n2) {x1 x2 : UInt8} {r1 r2 : List UInt8} {f1 f2 : FuncId}
    (h1 : ∀ f fn, P.funcs[f]? = some fn → P.funcNamed fn.name = some f → fn.name.toUTF8.data.toList = x1 :: r1 → f = f1)
    (h2 : ∀ f fn, P.funcs[f]? = some fn → P.funcNamed fn.name = some f → fn.name.toUTF8.data.toList = x2 :: r2 → f = f2)
    (h : funcsAt P W n (.map [(.int q n1, .iface "func" (.lit (.string (x1 :: r1)))), (.int q n2, .iface "func" (.lit (.string (x2 :: r2))))])) :
    VRel (frzAll W) noL (.fmap [.int q n1, .int q n2] [.clo (.func f1) [] [], .clo (.func f2) [] []]) ((W.cell? ⟨g, 0, none⟩).getD undef) ∧ (W.cell? ⟨g, 0, none⟩).isSome = true := by
  obtain ⟨g', t', cs, fuel, p, e1, e2, e3, e4⟩ := h
  rw [hg] at e1
  obtain rfl := Option.some.inj e1
  rw [ht] at e2
  obtain rfl := Option.some.inj e2
  have hout : (DataW.map [(Lit.int q n1, DataW.iface "func" (.lit (.string (x1 :: r1)))), (Lit.int q n2, .iface "func" (.lit (.string (x2 :: r2))))] : DataW Unit).funcsOut = .map [(.int q n1, .held (x1 :: r1)), (.int q n2, .held (x2 :: r2))] := by
    simp [DataW.funcsOut, DataW.funcsOutEntries]
  rw [hout] at e4
  unfold World.var? at e3
  rw [hg, Option.bind_some] at e3
  cases fuel with
  | zero => simp [DataW.trod] at e4
  | succ fuel =>
  unfold DataW.trod at e4
  simp only [hu] at e4
  cases hcs : cs.toList with
  | nil => simp [hcs] at e4
  | cons v0 vr =>
  cases vr with
  | cons v1 vr => cases v0 <;> simp [hcs] at e4
  | nil =>
  rw [hcs] at e4
  cases v0 <;> try (simp at e4; done)
  rename_i m
  cases m with
  | none => simp at e4
  | some r =>
  simp only at e4
  have hcell : W.cell? ⟨g, 0, none⟩ = some (.map (some r)) := by
    unfold World.cell?
    cases hh : W.heap[g]? with
    | none => simp [hh] at e3
    | some o =>
      cases o <;> simp [hh] at e3
      rename_i c2 _ _
      subst e3
      have : c2 = #[.map (some r)] := by cases c2; simp_all
      subst this
      simp [hh]
  refine ⟨?_, by rw [hcell]; rfl⟩
  rw [hcell, Option.getD_some]
  cases hh : W.heap[r]? with
  | none => simp [hh] at e4
  | some o =>
  rw [hh] at e4
  cases o <;> try (simp at e4; done)
  rename_i es clock
  simp only at e4
  split at e4
  case isFalse => simp at e4
  simp only [Option.bind_eq_some_iff] at e4
  obtain ⟨entries, m1, m2⟩ := e4
  split at m2
  case isFalse => simp at m2
  simp only [Option.some.injEq, Prod.mk.injEq, DataW.map.injEq] at m2
  obtain ⟨m2, -⟩ := m2
  have hlen := sort_len (entries.map (·.1))
  rw [m2] at hlen
  obtain ⟨l1, l2⟩ := mapM_some _ m1
  obtain ⟨a0, a1, rfl⟩ : ∃ a0 a1, entries = [a0, a1] := by
    match entries, hlen with
    | [a, b], _ => exact ⟨a, b, rfl⟩
  obtain ⟨y0, y1, hes⟩ : ∃ y0 y1, es.toList = [y0, y1] := by
    match h : es.toList, l1 with
    | [a, b], _ => exact ⟨a, b, rfl⟩
    | [], l => simp at l
    | [_], l => simp at l
    | _ :: _ :: _ :: _, l => simp at l
  rw [hes] at l2
  obtain ⟨b0, hb0, g0⟩ := l2 0 y0 rfl
  obtain ⟨b1, hb1, g1⟩ := l2 1 y1 rfl
  simp at hb0 hb1
  subst hb0 hb1
  simp only [Option.bind_eq_some_iff] at g0 g1
  obtain ⟨k0, q0, g0⟩ := g0
  obtain ⟨k1, q1, g1⟩ := g1
  split at g0
  case isFalse => simp at g0
  rename_i fo0
  split at g1
  case isFalse => simp at g1
  rename_i fo1
  simp only [Option.map_eq_some_iff] at g0 g1
  obtain ⟨z0, t0, rfl⟩ := g0
  obtain ⟨z1, t1, rfl⟩ := g1
  obtain ⟨j0, w0, rfl⟩ := key_int hk q0
  obtain ⟨j1, w1, rfl⟩ := key_int hk q1
  have hmaps : (frzAll W).maps r = some [(y0.key, y0.val), (y1.key, y1.val)] := by simp [frzAll, hh, hes]
  have mk : ∀ {z : DataW (List UInt8) × List MemPlace} {v : Value} {x : UInt8} {r : List UInt8}, v.formed P et = true → DataW.trod (funcToken P) P W 0 (fun _ => true) true fuel et v.cells.toList = some z → z.1 = .held (x :: r) →
      ∃ f fn, v = .func (.func f) #[] #[] ∧ P.funcs[f]? = some fn ∧ P.funcNamed fn.name = some f ∧ fn.name.toUTF8.data.toList = x :: r := by
    intro z v x r hf hz he1
    obtain ⟨z1, z2⟩ := z
    simp only at he1
    subst he1
    exact fn_val he hf hz
  have clo : ∀ {f : FuncId}, VRel (frzAll W) noL (.clo (.func f) [] []) (.func (.func f) #[] #[]) := fun {f} => .clo rfl rfl (fun i c h => by simp at h) (fun i c h => by simp at h)
  simp only [List.map_cons, List.map_nil, List.foldr_cons, List.foldr_nil, DataW.insert] at m2
  split at m2
  · simp only [List.cons.injEq, Prod.mk.injEq, Lit.int.injEq, true_and, and_true] at m2
    obtain ⟨⟨rfl, d0⟩, rfl, d1⟩ := m2
    obtain ⟨f, fn, v0, p1, p2, p3⟩ := mk fo0 t0 d0
    obtain ⟨f', fn', v1, p1', p2', p3'⟩ := mk fo1 t1 d1
    obtain rfl := h1 f fn p1 p2 p3
    obtain rfl := h2 f' fn' p1' p2' p3'
    refine .fmap hmaps (.inl rfl) rfl rfl (fun i c hc => ?_) (fun i c hc => ?_)
    all_goals
      rcases i with _ | _ | i
      · simp at hc; subst hc
        simp only [List.getD_cons_zero, w0, v0]
        first | exact .int | exact clo
      · simp at hc; subst hc
        simp only [List.getD_cons_zero, List.getD_cons_succ, w1, v1]
        first | exact .int | exact clo
      · simp at hc
  · simp only [List.cons.injEq, Prod.mk.injEq, Lit.int.injEq, true_and, and_true] at m2
    obtain ⟨⟨rfl, d0⟩, rfl, d1⟩ := m2
    obtain ⟨f, fn, v0, p1, p2, p3⟩ := mk fo1 t1 d0
    obtain ⟨f', fn', v1, p1', p2', p3'⟩ := mk fo0 t0 d1
    obtain rfl := h1 f fn p1 p2 p3
    obtain rfl := h2 f' fn' p1' p2' p3'
    refine .fmap (kv := [(y1.key, y1.val), (y0.key, y0.val)]) hmaps (.inr ⟨q, _, _, y0.val, y1.val, Ne.symm hne, rfl, by rw [w0, w1], by rw [w0, w1]⟩) rfl rfl (fun i c hc => ?_) (fun i c hc => ?_)
    all_goals
      rcases i with _ | _ | i
      · simp at hc; subst hc
        simp only [List.getD_cons_zero, w1, v0]
        first | exact .int | exact clo
      · simp at hc; subst hc
        simp only [List.getD_cons_zero, List.getD_cons_succ, w0, v1]
        first | exact .int | exact clo
      · simp at hc
end Go.Abs
