/- Each operation of the model does what the abstract one says: the third part. -/
import Derived.Test.YtaiibojjndeipaaAbsOps2
set_option linter.all false
namespace Go.Abs
open Go
section
variable {P : Program} {F : Frz} {L : Lay} {σs : Sto} {w : World}

theorem q_field (hI : Inv F L σs w) {t : TypeId} {fields : Array Field} (hu : P.underlying t = some (.struct fields)) {i : Nat} {fd : Field} (hfd : fields[i]? = some fd) {n : Nat} {ag : Bool}
    (hn : szOf P fd.type = some n) (hag : aggT P fd.type = some ag) {x : AVal} {cx : Value} (hx : VRel F L x cx) {lv : List Nat} {σ : Sto} {e : Env} {y : Opd} (hy : ev e y = x) {v : AVal} {σ' : Sto}
    (hs : stepOp lv (.field fd.offset n ag y) e σ = some (v, σ')) : σ' = σ ∧ QRes F L σs w (idsOf σ.length 0) (Sem.run P (do pure (Next.value (← Instr.field t cx i))) w) v := by
  simp only [stepOp, hy] at hs
  cases x <;> (try simp only [reduceCtorEq] at hs)
  case agg cs =>
    split at hs
    · rename_i hle
      simp only [Option.map_eq_some_iff, Prod.mk.injEq] at hs
      obtain ⟨u, h1, rfl, rfl⟩ := hs
      obtain ⟨ca, rfl, hr⟩ := CellsRel.ofAgg hx
      obtain ⟨cv, h2, h3⟩ := run_part (P := P) (w := w) hag hn hr hle h1
      exact ⟨rfl, .still hI (run_v (by simp [Instr.field, run_underlying hu, hfd, asAgg, h2])) h3 (idsOf_zero _)⟩
    · simp at hs

theorem flatC_get {k : Nat} : ∀ {xs : List AVal} (_ : ∀ x ∈ xs, x.cells.length = k) {i : Nat} {x : AVal}, xs[i]? = some x → ∀ {p : Nat} {c : AVal}, x.cells[p]? = some c → (flatC xs)[i * k + p]? = some c
  | [], _, i, x, h, p, c, _ => by simp at h
  | y :: xs, hk, 0, x, h, p, c, hp => by
    simp at h; subst h
    simp only [flatC, List.flatMap_cons, Nat.zero_mul, Nat.zero_add]
    rw [List.getElem?_append_left (List.getElem?_eq_some_iff.1 hp).1]; exact hp
  | y :: xs, hk, i + 1, x, h, p, c, hp => by
    have ih := flatC_get (xs := xs) (fun x hx => hk x (by simp [hx])) (i := i) (x := x) (by simpa using h) hp
    have hy : y.cells.length = k := hk y (by simp)
    simp only [flatC, List.flatMap_cons] at ih ⊢
    rw [List.getElem?_append_right (by rw [hy, Nat.succ_mul]; omega), hy, Nat.succ_mul, show i * k + k + p - k = i * k + p by omega]
    exact ih

theorem VRel.elem {k : Nat} {xs : List AVal} {a : Addr} {len cap : Nat} (h : VRel F L (.list k xs) (.slice (some a) len cap)) {i : Nat} {x : AVal} (hi : xs[i]? = some x) :
    VRel F L (.fptr x.cells) (.pointer (some (a.add (i * k)))) := by
  cases h with
  | list hs hc hk hf ho hv =>
    rename_i fv
    rw [Addr.add_plain (hs (fun he => by subst he; simp at hi))]
    exact .fptr (fv := fun p => fv (i * k + p)) rfl (fun p c hp => by have := hf _ c (flatC_get hk hi hp); simp only [Nat.add_assoc]; exact this)
      (fun p c hp => ho _ c (flatC_get hk hi hp)) (fun p c hp => hv _ c (flatC_get hk hi hp))

theorem q_iaddr (hI : Inv F L σs w) {t el : TypeId} {k : Nat} (hu : P.underlying t = some (.slice el)) (hk : szOf P el = some k) {x j : AVal} {cx cj : Value} (hx : VRel F L x cx) (hj : VRel F L j cj)
    {lv : List Nat} {σ : Sto} (hσ : ∀ i, i < σ.length → σs[i]? = σ[i]?) {e : Env} {y z : Opd} (hy : ev e y = x) (hz : ev e z = j) {v : AVal} {σ' : Sto}
    (hs : stepOp lv (.iaddr k y z) e σ = some (v, σ')) : σ' = σ ∧ QRes F L σs w (idsOf σ.length 0) (Sem.run P (do pure (Next.value (← Instr.indexAt t cx cj))) w) v := by
  have hrun : ∀ {a : Addr} {len cap i : Nat} {q : IntKind} {zi : Int}, 0 ≤ zi → zi.toNat = i → i < len →
      (Instr.indexAt t (.slice (some a) len cap) (.int q zi)).run P w = .ok (.pointer (some (a.add (i * k)))) w := by
    intro a len cap i q zi h0 h1 h2
    have : zi < (len : Int) := by omega
    simp [Instr.indexAt, asIntOf, run_underlying hu, h0, this, run_sizeOf' hk, h1]
  simp only [stepOp, hy, hz] at hs
  split at hs
  · rename_i k' xs i hi
    obtain ⟨q, zi, rfl, h0, h1⟩ := idx_bound hj hi
    split at hs
    · rename_i hkk
      subst hkk
      simp only [Option.map_eq_some_iff, Prod.mk.injEq] at hs
      obtain ⟨u, h2, rfl, rfl⟩ := hs
      obtain ⟨a, cap, rfl, hsp, hcap, hk0⟩ := hx.listInv
      exact ⟨rfl, .still hI (run_v (hrun h0 h1 (List.getElem?_eq_some_iff.1 h2).1)) (hx.elem h2) (idsOf_zero _)⟩
    · simp at hs
  · rename_i o gen off len k' i hi
    obtain ⟨q, zi, rfl, h0, h1⟩ := idx_bound hj hi
    split at hs
    · rename_i nl cs ho
      have ho' := (hσ o (List.getElem?_eq_some_iff.1 ho).1).trans ho
      split at hs
      · rename_i hc
        obtain ⟨c1, rfl, hg⟩ := hc
        simp only [Option.some.injEq, Prod.mk.injEq] at hs
        obtain ⟨rfl, rfl⟩ := hs
        rcases hI.readRef hx ho' hg with ⟨_, _, rfl, _⟩ | ⟨b, top, c, elem, cap, rfl, hL, hw, hlc, htop, hgc, hlen, hct, hcs, hone, hn, hrel⟩
        · omega
        · refine ⟨rfl, .still hI (run_v (hrun h0 h1 c1)) ?_ (idsOf_zero _)⟩
          refine .ptr (by rw [hL]; simp) ⟨_, rfl⟩ (fun loc g hl => ?_) (fun loc hl => ?_)
          · rw [hL] at hl; injection hl with e1 e2; omega
          · rw [hL] at hl; injection hl with e1 e2; subst e1
            exact ⟨b, top, rfl, by rw [Addr.add_plain rfl]⟩
      · simp at hs
    · simp at hs
  · simp at hs

theorem q_iaddrA (hI : Inv F L σs w) {t el : TypeId} {n k : Nat} (hu : P.underlying t = some (.array n el)) (hk : szOf P el = some k) {x j : AVal} {cx cj : Value} (hx : VRel F L x cx) (hj : VRel F L j cj)
    {lv : List Nat} {σ : Sto} {e : Env} {y z : Opd} (hy : ev e y = x) (hz : ev e z = j) {v : AVal} {σ' : Sto}
    (hs : stepOp lv (.iaddrA n k y z) e σ = some (v, σ')) : σ' = σ ∧ QRes F L σs w (idsOf σ.length 0) (Sem.run P (do pure (Next.value (← Instr.indexAt t cx cj))) w) v := by
  have hrun : ∀ {a : Addr} {i : Nat} {q : IntKind} {zi : Int}, 0 ≤ zi → zi.toNat = i → i < n →
      (Instr.indexAt t (.pointer (some a)) (.int q zi)).run P w = .ok (.pointer (some (a.add (i * k)))) w := by
    intro a i q zi h0 h1 h2
    have : zi < (n : Int) := by omega
    simp [Instr.indexAt, asIntOf, run_underlying hu, Instr.sureAddr, h0, this, run_sizeOf' hk, h1]
  simp only [stepOp, hy, hz] at hs
  split at hs
  · rename_i o gen off i hi
    obtain ⟨q, zi, rfl, h0, h1⟩ := idx_bound hj hi
    split at hs
    · rename_i hc
      simp only [Option.some.injEq, Prod.mk.injEq] at hs
      obtain ⟨rfl, rfl⟩ := hs
      obtain ⟨ad, rfl, h⟩ := hx.ptrAdd (i * k)
      exact ⟨rfl, .still hI (run_v (hrun h0 h1 hc)) h (idsOf_zero _)⟩
    · simp at hs
  · rename_i cs i hi
    obtain ⟨q, zi, rfl, h0, h1⟩ := idx_bound hj hi
    split at hs
    · rename_i hc
      simp only [Option.some.injEq, Prod.mk.injEq] at hs
      obtain ⟨rfl, rfl⟩ := hs
      obtain ⟨ad, rfl⟩ : ∃ a, cx = .pointer (some a) := by cases hx; exact ⟨_, rfl⟩
      exact ⟨rfl, .still hI (run_v (hrun h0 h1 hc)) (hx.fptrDrop _) (idsOf_zero _)⟩
    · simp at hs
  · simp at hs

theorem q_idxA (hI : Inv F L σs w) {t el : TypeId} {n k : Nat} {ag : Bool} (hu : P.underlying t = some (.array n el)) (hk : szOf P el = some k) (hag : aggT P el = some ag) {x j : AVal} {cx cj : Value}
    (hx : VRel F L x cx) (hj : VRel F L j cj) {lv : List Nat} {σ : Sto} {e : Env} {y z : Opd} (hy : ev e y = x) (hz : ev e z = j) {v : AVal} {σ' : Sto}
    (hs : stepOp lv (.idxA n k ag y z) e σ = some (v, σ')) : σ' = σ ∧ QRes F L σs w (idsOf σ.length 0) (Sem.run P (do pure (Next.value (← Instr.index t cx cj))) w) v := by
  simp only [stepOp, hy, hz] at hs
  split at hs
  · rename_i cs i hi
    obtain ⟨q, zi, rfl, h0, h1⟩ := idx_bound hj hi
    split at hs
    · rename_i hc
      simp only [Option.map_eq_some_iff, Prod.mk.injEq] at hs
      obtain ⟨u, h2, rfl, rfl⟩ := hs
      obtain ⟨ca, rfl, hr⟩ := CellsRel.ofAgg hx
      obtain ⟨cv, h3, h4⟩ := run_part (P := P) (w := w) hag hk hr hc.2 h2
      have : zi < (n : Int) := by omega
      exact ⟨rfl, .still hI (run_v (by simp [Instr.index, asIntOf, run_underlying hu, h0, this, run_sizeOf' hk, h1, h3])) h4 (idsOf_zero _)⟩
    · simp at hs
  · simp at hs

theorem q_idxS (hI : Inv F L σs w) {t : TypeId} (hu : P.underlying t = some .string) {x j : AVal} {cx cj : Value}
    (hx : VRel F L x cx) (hj : VRel F L j cj) {lv : List Nat} {σ : Sto} {e : Env} {y z : Opd} (hy : ev e y = x) (hz : ev e z = j) {v : AVal} {σ' : Sto}
    (hs : stepOp lv (.idxS y z) e σ = some (v, σ')) : σ' = σ ∧ QRes F L σs w (idsOf σ.length 0) (Sem.run P (do pure (Next.value (← Instr.index t cx cj))) w) v := by
  simp only [stepOp, hy, hz] at hs
  split at hs
  · rename_i s i hi
    obtain ⟨q, zi, rfl, h0, rfl⟩ := idx_bound hj hi
    simp only [Option.map_eq_some_iff, Prod.mk.injEq] at hs
    obtain ⟨u, h2, rfl, rfl⟩ := hs
    cases hx
    exact ⟨rfl, .still hI (run_v (cv := .int .u8 u.toNat) (by simp [Instr.index, asIntOf, run_underlying hu, h0, h2])) .int (idsOf_zero _)⟩
  · simp at hs

theorem q_extr (hI : Inv F L σs w) {i : Nat} {x : AVal} {cx : Value} (hx : VRel F L x cx) {lv : List Nat} {σ : Sto} {e : Env} {y : Opd} (hy : ev e y = x) {v : AVal} {σ' : Sto}
    (hs : stepOp lv (.extr y i) e σ = some (v, σ')) : σ' = σ ∧ QRes F L σs w (idsOf σ.length 0) (Sem.run P (do pure (Next.value (← Instr.extract cx i))) w) v := by
  simp only [stepOp, hy] at hs
  cases x <;> (try simp only [reduceCtorEq] at hs)
  case tup vs =>
    simp only [Option.map_eq_some_iff, Prod.mk.injEq] at hs
    obtain ⟨u, h2, rfl, rfl⟩ := hs
    cases hx with
    | tup hl hc =>
      rename_i ca
      have hlt : i < ca.size := by rw [hl]; exact (List.getElem?_eq_some_iff.1 h2).1
      have := hc i u h2
      simp only [Array.getD_eq_getD_getElem?, Array.getElem?_eq_getElem hlt, Option.getD_some] at this
      exact ⟨rfl, .still hI (run_v (by simp [Instr.extract, hlt])) this (idsOf_zero _)⟩

theorem Inv.readMap (hI : Inv F L σs w) {o : Nat} {cv : Value} (h : VRel F L (.map o) cv) {ks vs : List AVal} (hσ : σs[o]? = some (.map ks vs)) :
    ∃ r es clock, cv = .map (some r) ∧ L o = .live (.mp r) (match L o with | .live _ g => g | _ => 0) ∧ w.heap[r]? = some (.map es clock) ∧ EntRel F L ks vs es.toList := by
  cases h with
  | map h0 h1 h =>
    cases hL : L o with
    | un => exact absurd hL h0
    | dead => have := hI.dd o hL; rw [hσ] at this; simp at this
    | live loc g =>
      obtain ⟨ob, h3, h4⟩ := hI.obj o loc g hL
      rw [hσ] at h3
      obtain rfl := Option.some.inj h3
      obtain ⟨r, es, cl, rfl, h5, h6⟩ := h4
      obtain ⟨r', hr', rfl⟩ := h _ _ hL
      injection hr' with e; subst e
      exact ⟨r, es, cl, rfl, rfl, h5, h6⟩

theorem q_len (hI : Inv F L σs w) {ts : Array TypeId} {t0 ty : TypeId} (ht : ts[0]? = some t0) {d : TypeDesc} (hu : P.underlying t0 = some d) {kd : LenK}
    (hd : match kd with | .str => d = .string | .sl => ∃ e, d = .slice e | .mp => ∃ k e, d = .map k e) {x : AVal} {cx : Value} (hx : VRel F L x cx)
    {lv : List Nat} {σ : Sto} (hσ : ∀ i, i < σ.length → σs[i]? = σ[i]?) {e : Env} {y : Opd} (hy : ev e y = x) {v : AVal} {σ' : Sto}
    (hs : stepOp lv (.len kd y) e σ = some (v, σ')) : σ' = σ ∧ QRes F L σs w (idsOf σ.length 0) (Sem.run P (do pure (Next.value (← Builtin.len_ ts ty #[cx]))) w) v := by
  have hsl : ∀ {a : Option Addr} {n c : Nat} {el : TypeId}, d = .slice el → (Builtin.len_ ts ty #[.slice a n c]).run P w = .ok (.int .i64 n) w := by
    intro a n c el hd
    subst hd
    simp [Builtin.len_, ht, run_underlying hu, goInt]
  simp only [stepOp, hy] at hs
  split at hs
  · cases hx
    obtain ⟨el, hd⟩ := hd
    simp only [Option.some.injEq, Prod.mk.injEq] at hs
    obtain ⟨rfl, rfl⟩ := hs
    exact ⟨rfl, .still hI (run_v (hsl hd)) .int (idsOf_zero _)⟩
  · cases hx
    obtain ⟨el, hd⟩ := hd
    simp only [Option.some.injEq, Prod.mk.injEq] at hs
    obtain ⟨rfl, rfl⟩ := hs
    exact ⟨rfl, .still hI (run_v (hsl hd)) .int (idsOf_zero _)⟩
  · cases hx
    obtain ⟨k, el, rfl⟩ := hd
    simp only [Option.some.injEq, Prod.mk.injEq] at hs
    obtain ⟨rfl, rfl⟩ := hs
    exact ⟨rfl, .still hI (run_v (cv := .int .i64 0) (by simp [Builtin.len_, ht, run_underlying hu, goInt])) .int (idsOf_zero _)⟩
  · rename_i k xs
    obtain ⟨a, cap, rfl, hsp, hcap, hk0⟩ := hx.listInv
    obtain ⟨el, hd⟩ := hd
    simp only [Option.some.injEq, Prod.mk.injEq] at hs
    obtain ⟨rfl, rfl⟩ := hs
    exact ⟨rfl, .still hI (run_v (hsl hd)) .int (idsOf_zero _)⟩
  · rename_i s
    cases hx
    simp only at hd
    subst hd
    simp only [Option.some.injEq, Prod.mk.injEq] at hs
    obtain ⟨rfl, rfl⟩ := hs
    exact ⟨rfl, .still hI (run_v (cv := .int .i64 s.size) (by simp [Builtin.len_, ht, run_underlying hu, goInt])) .int (idsOf_zero _)⟩
  · rename_i ks vs
    obtain ⟨k, el, rfl⟩ := hd
    simp only [Option.some.injEq, Prod.mk.injEq] at hs
    obtain ⟨rfl, rfl⟩ := hs
    cases hx with
    | @fmap _ _ _ r kv hr hk hl hkv hvv =>
      obtain ⟨es, cl, hw, he⟩ := hI.fm r kv hr
      have hlen : es.size = ks.length := by rw [← hk, ← he]; simp
      exact ⟨rfl, .still hI (run_v (cv := .int .i64 ks.length) (by simp [Builtin.len_, ht, run_underlying hu, goInt, getObj, Sem.run, hw, hlen])) .int (idsOf_zero _)⟩
  · rename_i o gen off len k
    split at hs
    · rename_i nl cs ho
      have ho' := (hσ o (List.getElem?_eq_some_iff.1 ho).1).trans ho
      split at hs
      · rename_i hg
        simp only [Option.some.injEq, Prod.mk.injEq] at hs
        obtain ⟨rfl, rfl⟩ := hs
        obtain ⟨el, hd⟩ := hd
        rcases hI.readRef hx ho' hg with ⟨_, _, rfl, _, rfl, _⟩ | ⟨b, top, c, elem, cap, rfl, _⟩
        · exact ⟨rfl, .still hI (run_v (hsl hd)) .int (idsOf_zero _)⟩
        · exact ⟨rfl, .still hI (run_v (hsl hd)) .int (idsOf_zero _)⟩
      · simp at hs
    · simp at hs
  · rename_i o
    split at hs
    · rename_i ks vs ho
      have ho' := (hσ o (List.getElem?_eq_some_iff.1 ho).1).trans ho
      simp only [Option.some.injEq, Prod.mk.injEq] at hs
      obtain ⟨rfl, rfl⟩ := hs
      obtain ⟨k, el, rfl⟩ := hd
      obtain ⟨r, es, cl, rfl, hL, hw, hent⟩ := hI.readMap hx ho'
      have hlen : es.size = ks.length := by simpa using hent.1
      exact ⟨rfl, .still hI (run_v (cv := .int .i64 ks.length) (by simp [Builtin.len_, ht, run_underlying hu, goInt, getObj, Sem.run, hw, hlen])) .int (idsOf_zero _)⟩
    · simp at hs
  · simp at hs

theorem q_cap (hI : Inv F L σs w) {ts : Array TypeId} {t0 ty el : TypeId} (ht : ts[0]? = some t0) (hu : P.underlying t0 = some (.slice el)) {x : AVal} {cx : Value} (hx : VRel F L x cx)
    {lv : List Nat} {σ : Sto} {e : Env} {y : Opd} (hy : ev e y = x) {v : AVal} {σ' : Sto}
    (hs : stepOp lv (.cap y) e σ = some (v, σ')) : σ' = σ ∧ QRes F L σs w (idsOf σ.length 0) (Sem.run P (do pure (Next.value (← Builtin.cap_ ts ty #[cx]))) w) v := by
  have hsl : ∀ {a : Option Addr} {n c : Nat}, (Builtin.cap_ ts ty #[.slice a n c]).run P w = .ok (.int .i64 c) w := by
    intro a n c
    simp [Builtin.cap_, ht, run_underlying hu, goInt]
  simp only [stepOp, hy] at hs
  cases x <;> (try simp only [reduceCtorEq] at hs)
  all_goals
    cases hx
    simp only [Option.some.injEq, Prod.mk.injEq] at hs
    obtain ⟨rfl, rfl⟩ := hs
    exact ⟨rfl, .still hI (run_v hsl) .int (idsOf_zero _)⟩

theorem q_mkif (hI : Inv F L σs w) {t : TypeId} {d : TypeDesc} (hu : P.underlying t = some d) (hd : ∀ m, d ≠ .interface m) {x : AVal} {cx : Value} (hx : VRel F L x cx) (hne : x ≠ .und) (n : Nat) :
    QRes F L σs w (idsOf n 0) (Sem.run P (do pure (Next.value (← Instr.makeInterface t cx))) w) (.iface t x) := by
  refine .still hI (run_v (cv := .iface t cx) ?_) (.iface hx hne) (idsOf_zero _)
  simp only [Instr.makeInterface, Sem.run_bind, run_underlying hu, Result.andThen_ok]
  cases d <;> first | rfl | exact absurd rfl (hd _)

theorem reads_map {e : Env} {ρ : Operand → Value} {xs : Array Operand} {ys : List Opd} (h : opdsA xs = some ys) (hr : ∀ x ∈ xs.toList, Reads F L e ρ x) :
    (xs.map ρ).size = (ys.map (ev e)).length ∧ ∀ (i : Nat) (c : AVal), (ys.map (ev e))[i]? = some c → VRel F L c ((xs.map ρ).getD i undef) := by
  obtain ⟨h1, h2⟩ := mapM_some _ h
  refine ⟨by simp [h1], fun i c hc => ?_⟩
  simp only [List.getElem?_map, Option.map_eq_some_iff] at hc
  obtain ⟨y, hy, rfl⟩ := hc
  obtain ⟨x, hx, ho⟩ := mapM_back _ h hy
  have hlt := (List.getElem?_eq_some_iff.1 hx)
  obtain ⟨hl, hxe⟩ := hlt
  have hl' : i < xs.size := by simpa using hl
  have : (xs.map ρ).getD i undef = ρ x := by
    simp only [Array.getD_eq_getD_getElem?, Array.getElem?_map, Array.getElem?_eq_getElem hl', Option.map_some, Option.getD_some]
    rw [← hxe]; simp
  rw [this]
  exact hr x (List.mem_of_getElem? hx) y ho

theorem q_mkfn (hI : Inv F L σs w) {f : Fn} {first captured : Array Operand} {fs cs : List Opd} (hf : opdsA first = some fs) (hc : opdsA captured = some cs) {e : Env} {ρ : Operand → Value}
    (rf : ∀ x ∈ first.toList, Reads F L e ρ x) (rc : ∀ x ∈ captured.toList, Reads F L e ρ x) (n : Nat) :
    QRes F L σs w (idsOf n 0) (Sem.run P (do pure (Next.value (← Instr.makeFunc f (first.map ρ) (captured.map ρ)))) w) (.clo f (fs.map (ev e)) (cs.map (ev e))) := by
  obtain ⟨h1, h2⟩ := reads_map hf rf
  obtain ⟨h3, h4⟩ := reads_map hc rc
  exact .still hI (run_v (by simp [Instr.makeFunc])) (.clo h1 h3 h2 h4) (idsOf_zero _)

theorem q_mkmap (hI : Inv F L σs w) {t : TypeId} {n : Nat} (hun : L n = .un) (hn : σs[n]? = some (.map [] [])) :
    QRes F L σs w (idsOf n 1) (Sem.run P (do pure (Next.value (← Instr.makeMap t none))) w) (.map n) := by
  have hok : ObjOk F L (w.alloc (.map #[] 0)) (.mp w.heap.size) 0 (.map [] []) :=
    ⟨w.heap.size, #[], 0, rfl, by show (w.heap.push _)[w.heap.size]? = _; simp, rfl, rfl, fun i c h => by simp at h, fun i c h => by simp at h⟩
  have := hI.change (o := n) (loc := .mp w.heap.size) (gen := 0) (ob := .map [] []) (σ' := σs) (w' := w.alloc (.map #[] 0)) (Nat.le_refl _) (fun _ _ _ => rfl) hn
    (by rw [hun]; trivial) rfl rfl rfl (by show w.heap.size ≤ (w.heap.push _).size; simp) (fun b hb => by simp [Loc.block?] at hb; subst hb; exact .inr (Nat.le_refl _))
    (fun k hk _ => by show (w.heap.push _)[k]? = _; rw [Array.getElem?_push, if_neg (by omega)]) hok
  refine ⟨.map (some w.heap.size), w.alloc (.map #[] 0), updL L n (.live (.mp w.heap.size) 0), run_v (by simp [Instr.makeMap]), ?_, this.1, this.2, fun i => ?_⟩
  · exact .map (by rw [updL_same]; simp) ⟨_, rfl⟩ (fun loc gen hl => by rw [updL_same] at hl; injection hl with e1 e2; subst e1; exact ⟨_, rfl, rfl⟩)
  · by_cases e : i = n
    · subst e; rw [updL_same]; simp [idsOf]
    · rw [updL_ne _ _ e]
      have : ¬ idsOf n 1 i := by unfold idsOf; omega
      simp [this]

theorem wrap_small {n : Int} (h0 : 0 ≤ n) (h1 : n ≤ IntKind.i64.max) : IntKind.i64.wrap n = n := by
  have e1 : IntKind.i64.max = 9223372036854775807 := rfl
  rw [e1] at h1
  exact IntWalk.i64_in n (by omega)

theorem q_mkslice (hI : Inv F L σs w) {t el : TypeId} (hu : P.underlying t = some (.slice el)) {i : TypeInfo} (hi : P.info? el = some i) {z : List AVal} (hz : zeroC P el = some z) (hzl : z.length = i.size)
    {x y : AVal} {cx cy : Value} (hx : VRel F L x cx) (hy : VRel F L y cy) {lv : List Nat} {σ : Sto} {e : Env} {ox oy : Opd} (ex : ev e ox = x) (ey : ev e oy = y) {v : AVal} {σ' : Sto}
    (hs : stepOp lv (.mkslice i.size i.bytes z ox oy) e σ = some (v, σ')) : ∃ ob, σ' = σ ++ [ob] ∧ (L σ.length = .un → σs[σ.length]? = some ob →
      QRes F L σs w (idsOf σ.length 1) (Sem.run P (do pure (Next.value (← Instr.makeSlice t cx cy))) w) v) := by
  simp only [stepOp, ex, ey] at hs
  split at hs
  · rename_i l c
    cases hx; cases hy
    split at hs
    · rename_i hc
      obtain ⟨h0, h1, h2, h3⟩ := hc
      simp only [Option.some.injEq, Prod.mk.injEq] at hs
      obtain ⟨rfl, rfl⟩ := hs
      refine ⟨_, rfl, fun hun hn => ?_⟩
      obtain ⟨zv, g1, g2, g3⟩ := zeroC_run hz w F L
      have hzs : zv.cells.size = i.size := by have := g2.1; simp at this; omega
      have hrep := range_mod zv.cells c.toNat
      rw [hzs] at hrep
      have hcr : CellsRel F L (List.replicate c.toNat z).flatten ((Array.range (c.toNat * i.size)).map (zv.cells[· % i.size]!)).toList := by rw [hrep]; exact g2.replicate _
      have hlen : (List.replicate c.toNat z).flatten.length = c.toNat * i.size := by simp [hzl]
      rw [← hlen]
      have hwl := wrap_small h0 (Int.le_trans h1 h3)
      have hwc := wrap_small (Int.le_trans h0 h1) h3
      refine freshRef hI hun hn (fun x hx => ?_) (w' := w.alloc (.cells ((Array.range (c.toNat * i.size)).map (zv.cells[· % i.size]!)) el)) (c := (Array.range (c.toNat * i.size)).map (zv.cells[· % i.size]!)) (elem := el)
        rfl rfl rfl rfl (cap := c.toNat) (by omega) (by simp) (by omega) (by rw [hlen]; exact Nat.mul_le_mul_right _ (by omega)) (fun p x hp => getD_of_rel hcr hp) (run_v ?_)
      · simp only [List.mem_flatten, List.mem_replicate] at hx
        obtain ⟨l', ⟨_, rfl⟩, hx⟩ := hx
        exact g3 x hx
      · have htl : (decide (c < 0) || decide ((i.bytes : Int) * c > 2 ^ 48)) = false := by
          have e1 : (c.toNat : Int) = c := Int.toNat_of_nonneg (by omega)
          have h2' : (i.bytes : Int) * c ≤ 2 ^ 48 := by
            have h4 : ((i.bytes * c.toNat : Nat) : Int) ≤ ((2 * maxBytes : Nat) : Int) := by exact_mod_cast h2
            rw [Int.natCast_mul, e1] at h4
            simpa [maxBytes] using h4
          simp; omega
        simp only [Instr.makeSlice, Sem.run_bind, run_underlying hu, Result.andThen_ok, asInt, asIntOf, Sem.run_map, Sem.run_pure, run_info hi, hwl, hwc, htl]
        have hcond : (false || decide (l < 0) || decide (l > c)) = false := by simp; omega
        simp only [hcond, Bool.false_eq_true, if_false, Sem.run_bind, run_askRoom, Result.andThen_ok, run_sizeOf' (show szOf P el = some i.size by simp [szOf, hi])]
        by_cases hz0 : c.toNat * i.size = 0
        · rw [if_pos hz0]
          have e0 : Array.range (c.toNat * i.size) = #[] := by simp [hz0]
          simp [newRow, e0]
        · rw [if_neg hz0]
          simp [g1, newRow, hzs]
    · simp at hs
  · simp at hs

end
end Go.Abs
