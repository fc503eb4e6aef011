/- The operations together. -/
import Derived.Test.YtaiibojjndeipaaAbsOps7
set_option linter.all false
namespace Go.Abs
open Go

def AOp.isQ : AOp → Bool
  | .store .. | .mapup .. | .append .. | .appendz .. | .copy .. | .clear .. | .delete .. | .call .. | .callv .. => false
  | _ => true
def AOp.isCall : AOp → Bool
  | .call .. | .callv .. => true
  | _ => false

section
variable {P : Program} {F : Frz} {L : Lay} {σ σs : Sto} {w : World}

/-- what is asked of the store in which a reading operation is watched -/
structure Watch (L : Lay) (σ new σs : Sto) : Prop where
  pre : ∀ i, i < σ.length → σs[i]? = σ[i]?
  new_ : ∀ i ob, new[i]? = some ob → σs[σ.length + i]? = some ob ∧ L (σ.length + i) = .un

def QOut (F : Frz) (P : Program) (o : Oper) (e : Env) (σ : Sto) (v : AVal) (σ' : Sto) : Prop :=
  ∃ new, σ' = σ ++ new ∧ ∀ {L : Lay} {σs : Sto} {w : World} {ρ : Operand → Value}, Inv F L σs w → Watch L σ new σs → (∀ v, ρ (.const v) = v) → (∀ x ∈ o.op.operands.toList, Reads F L e ρ x) →
    QRes F L σs w (idsOf σ.length new.length) ((execOp ρ o).run P w) v

theorem QOut.still {o : Oper} {e : Env} {v : AVal} (h : ∀ {L : Lay} {σs : Sto} {w : World} {ρ : Operand → Value}, Inv F L σs w → (∀ i, i < σ.length → σs[i]? = σ[i]?) → (∀ v, ρ (.const v) = v) →
    (∀ x ∈ o.op.operands.toList, Reads F L e ρ x) → QRes F L σs w (idsOf σ.length 0) ((execOp ρ o).run P w) v) : QOut F P o e σ v σ :=
  ⟨[], by simp, fun hI hW hρ hr => h hI hW.pre hρ hr⟩

theorem QOut.one {o : Oper} {e : Env} {v : AVal} {ob : AObj} (h : ∀ {L : Lay} {σs : Sto} {w : World} {ρ : Operand → Value}, Inv F L σs w → L σ.length = .un → σs[σ.length]? = some ob →
    (∀ x ∈ o.op.operands.toList, Reads F L e ρ x) → QRes F L σs w (idsOf σ.length 1) ((execOp ρ o).run P w) v) : QOut F P o e σ v (σ ++ [ob]) :=
  ⟨[ob], rfl, fun hI hW _ hr => h hI (hW.new_ 0 ob rfl).2 (hW.new_ 0 ob rfl).1 hr⟩

theorem opdsA1 {xs : Array Operand} {x : Opd} (h : opdsA xs = some [x]) : ∃ ax, xs = #[ax] ∧ opdA ax = some x := by
  obtain ⟨h1, h2⟩ := mapM_some _ h
  rcases xs with ⟨l⟩
  cases l with
  | nil => simp at h1
  | cons a l =>
    cases l with
    | nil => obtain ⟨y, hy, ho⟩ := h2 0 a rfl; simp at hy; exact ⟨a, rfl, by rw [ho, ← hy]⟩
    | cons b l => simp at h1

theorem opdsA2 {xs : Array Operand} {x y : Opd} (h : opdsA xs = some [x, y]) : ∃ ax ay, xs = #[ax, ay] ∧ opdA ax = some x ∧ opdA ay = some y := by
  obtain ⟨h1, h2⟩ := mapM_some _ h
  rcases xs with ⟨l⟩
  cases l with
  | nil => simp at h1
  | cons a l =>
    cases l with
    | nil => simp at h1
    | cons b l =>
      cases l with
      | nil =>
        obtain ⟨u, hu, ho⟩ := h2 0 a rfl
        obtain ⟨u', hu', ho'⟩ := h2 1 b rfl
        simp at hu hu'
        exact ⟨a, b, rfl, by rw [ho, ← hu], by rw [ho', ← hu']⟩
      | cons c l => simp at h1

theorem opdsA_mem {xs : Array Operand} {ys : List Opd} (_ : opdsA xs = some ys) {p : Operand → Prop} (h : ∀ x ∈ xs.toList, p x) : ∀ x ∈ xs.toList, p x := h

theorem q_cEq {neg : Bool} {op : BinOp} (hop : (op = .eql ∧ neg = false) ∨ (op = .neq ∧ neg = true)) {t yt : TypeId} {x y : Operand} {a : AOp} (hc : cEq P neg op t x y = some a) {o : Oper} (ho : o.op = .binOp op t x y yt)
    {lv : List Nat} {e : Env} {v : AVal} {σ' : Sto} (hs : stepOp lv a e σ = some (v, σ')) : QOut F P o e σ v σ' := by
  have hex : ∀ (ρ : Operand → Value), execOp ρ o = (do pure (Next.value (← (do eqGuard op t x y (ρ x) (ρ y); binOp op t (ρ x) (ρ y))))) := by
    intro ρ; simp only [execOp, ho]
  have hmem : x ∈ o.op.operands.toList ∧ y ∈ o.op.operands.toList := by rw [ho]; simp [Op.operands]
  unfold cEq at hc
  split at hc
  · rename_i k hu
    split at hc
    case h_2 => simp at hc
    rename_i ax ay hx hy
    obtain rfl := Option.some.inj hc
    simp only [stepOp, Option.map_eq_some_iff, Prod.mk.injEq] at hs
    obtain ⟨u, hb, rfl, rfl⟩ := hs
    refine .still fun {L σs w ρ} hI _ _ hr => ?_
    obtain ⟨cv, h1, h2⟩ := binA_sound (P := P) (w := w) (t := t) (hr x hmem.1 ax hx) (hr y hmem.2 ay hy) hb
    have hg : (eqGuard op t x y (ρ x) (ρ y)).run P w = .ok () w := by
      have hr1 := hr x hmem.1 ax hx
      have : ∃ k n, ρ x = .int k n ∨ ∃ s, ρ x = .string s := by
        unfold binA at hb
        split at hb
        · rename_i heq _; rw [heq] at hr1; generalize ρ x = q at hr1; cases hr1; exact ⟨_, _, .inl rfl⟩
        · rename_i heq _; rw [heq] at hr1; generalize ρ x = q at hr1; cases hr1; exact ⟨.i64, 0, .inr ⟨_, rfl⟩⟩
        · simp at hb
      obtain ⟨k, n, h | ⟨s, h⟩⟩ := this
      · rw [h, eqGuard_at_int]; rfl
      · rw [h, eqGuard_at_string]; rfl
    rw [hex]
    exact .still hI (run_v (by rw [Sem.run_bind, hg, Result.andThen_ok]; exact h1)) h2 (idsOf_zero _)
  · rename_i hu
    split at hc
    case h_2 => simp at hc
    rename_i ax ay hx hy
    obtain rfl := Option.some.inj hc
    simp only [stepOp, Option.map_eq_some_iff, Prod.mk.injEq] at hs
    obtain ⟨u, hb, rfl, rfl⟩ := hs
    refine .still fun {L σs w ρ} hI _ _ hr => ?_
    obtain ⟨cv, h1, h2⟩ := binA_sound (P := P) (w := w) (t := t) (hr x hmem.1 ax hx) (hr y hmem.2 ay hy) hb
    have hg : (eqGuard op t x y (ρ x) (ρ y)).run P w = .ok () w := by
      have hr1 := hr x hmem.1 ax hx
      have : ∃ k n, ρ x = .int k n ∨ ∃ s, ρ x = .string s := by
        unfold binA at hb
        split at hb
        · rename_i heq _; rw [heq] at hr1; generalize ρ x = q at hr1; cases hr1; exact ⟨_, _, .inl rfl⟩
        · rename_i heq _; rw [heq] at hr1; generalize ρ x = q at hr1; cases hr1; exact ⟨.i64, 0, .inr ⟨_, rfl⟩⟩
        · simp at hb
      obtain ⟨k, n, h | ⟨s, h⟩⟩ := this
      · rw [h, eqGuard_at_int]; rfl
      · rw [h, eqGuard_at_string]; rfl
    rw [hex]
    exact .still hI (run_v (by rw [Sem.run_bind, hg, Result.andThen_ok]; exact h1)) h2 (idsOf_zero _)
  all_goals try (
    rename_i hu
    split at hc
    case h_2 => simp at hc
    rename_i sh ax ay hsh hx hy
    split at hc
    case isTrue => simp at hc
    rename_i hg
    obtain rfl := Option.some.inj hc
    simp only [stepOp, Option.map_eq_some_iff, Prod.mk.injEq] at hs
    obtain ⟨b, hb, rfl, rfl⟩ := hs
    refine QOut.still fun {L σs w ρ} hI _ _ hr => ?_
    have := eqs_sound (P := P) (w := w) hop hsh (by first | exact .inl hu | exact .inr (.inl ⟨_, hu⟩) | exact .inr (.inr ⟨_, _, hu⟩)) (by simpa using hg) (ox := x) (oy := y) (hr x hmem.1 ax hx) (hr y hmem.2 ay hy) hb
    rw [hex]
    exact .still hI (run_v this) .bool (idsOf_zero _)
    done)
  · rename_i d _ _ _ _ _ hu
    split at hc
    case h_2 => simp at hc
    rename_i kd hkd
    split at hc
    · rename_i hn
      simp only [Option.map_eq_some_iff] at hc
      obtain ⟨ay, hy, rfl⟩ := hc
      have hσ' : σ' = σ := by
        simp only [stepOp] at hs
        split at hs
        all_goals first
          | exact (Prod.mk.inj (Option.some.inj hs)).2.symm
          | (simp at hs; done)
          | (split at hs
             · split at hs
               · exact (Prod.mk.inj (Option.some.inj hs)).2.symm
               · simp at hs
             · simp at hs)
      subst hσ'
      refine QOut.still fun {L σs w ρ} hI hσ hρ hr => ?_
      rw [hex]
      exact (q_eqnil (P := P) hI hu hkd hop hρ (.inl ⟨hn, rfl⟩) (hr y hmem.2 ay hy) hσ rfl hs).2
    · split at hc
      · rename_i hn
        simp only [Option.map_eq_some_iff] at hc
        obtain ⟨ax, hx, rfl⟩ := hc
        have hσ' : σ' = σ := by
          simp only [stepOp] at hs
          split at hs
          all_goals first
            | exact (Prod.mk.inj (Option.some.inj hs)).2.symm
            | (simp at hs; done)
            | (split at hs
               · split at hs
                 · exact (Prod.mk.inj (Option.some.inj hs)).2.symm
                 · simp at hs
               · simp at hs)
        subst hσ'
        refine QOut.still fun {L σs w ρ} hI hσ hρ hr => ?_
        rw [hex]
        exact (q_eqnil (P := P) hI hu hkd hop hρ (.inr ⟨hn, rfl⟩) (hr x hmem.1 ax hx) hσ rfl hs).2
      · simp at hc
  · simp at hc

def AOp.makes : AOp → Bool
  | .alloc .. | .box .. | .bslice .. | .mkmap | .mkslice .. => true
  | _ => false

theorem still_store {a : AOp} (hq : a.isQ = true) (hm : a.makes = false) {lv : List Nat} {e : Env} {v : AVal} {σ' : Sto} (hs : stepOp lv a e σ = some (v, σ')) : σ' = σ := by
  cases a <;> first
    | (simp [AOp.isQ] at hq; done)
    | (simp [AOp.makes] at hm; done)
    | skip
  all_goals
    simp only [stepOp] at hs
    first
    | exact (Prod.mk.inj (Option.some.inj hs)).2.symm
    | (simp only [Option.map_eq_some_iff, Prod.mk.injEq] at hs; obtain ⟨_, _, _, rfl⟩ := hs; rfl)
    | (repeat' split at hs)
  all_goals first
    | exact (Prod.mk.inj (Option.some.inj hs)).2.symm
    | (simp only [Option.map_eq_some_iff, Prod.mk.injEq] at hs; obtain ⟨_, _, _, rfl⟩ := hs; rfl)
    | (simp at hs; done)

/-- the reading operations: what the model does is what the abstract machine does -/
theorem q_step {o : Oper} {a : AOp} (hc : cOp P o = some a) (hq : a.isQ = true) {lv : List Nat} {e : Env} {v : AVal} {σ' : Sto} (hs : stepOp lv a e σ = some (v, σ')) : QOut F P o e σ v σ' := by
  cases hop : o.op <;> simp only [cOp, hop, reduceCtorEq] at hc
  case move x =>
    simp only [Option.map_eq_some_iff] at hc
    obtain ⟨y, hy, rfl⟩ := hc
    obtain ⟨rfl, rfl⟩ := Prod.mk.inj (Option.some.inj hs)
    exact .still fun {L σs w ρ} hI _ _ hr => by
      have := q_mv (P := P) hI hy (hr x (by simp [hop, Op.operands])) σ.length
      simpa only [execOp, hop] using this
  case assign x =>
    simp only [Option.map_eq_some_iff] at hc
    obtain ⟨y, hy, rfl⟩ := hc
    obtain ⟨rfl, rfl⟩ := Prod.mk.inj (Option.some.inj hs)
    exact .still fun {L σs w ρ} hI _ _ hr => by
      have := q_mv (P := P) hI hy (hr x (by simp [hop, Op.operands])) σ.length
      simpa only [execOp, hop] using this
  case pick c x y =>
    split at hc
    case h_2 => simp at hc
    rename_i oc ox oy h1 h2 h3
    obtain rfl := Option.some.inj hc
    simp only [stepOp] at hs
    split at hs
    case h_2 => simp at hs
    rename_i t ht
    obtain ⟨rfl, rfl⟩ := Prod.mk.inj (Option.some.inj hs)
    refine .still fun {L σs w ρ} hI _ _ hr => ?_
    have hcr := hr c (by simp [hop, Op.operands]) oc h1
    rw [ht] at hcr
    have hcv : ρ c = .bool t := by generalize ρ c = q at hcr; cases hcr; rfl
    refine .still (cv := if t then ρ x else ρ y) hI ?_ ?_ (idsOf_zero _)
    · simp only [execOp, hop, hcv, asBool]; cases t <;> rfl
    · cases t
      · exact hr y (by simp [hop, Op.operands]) oy h3
      · exact hr x (by simp [hop, Op.operands]) ox h2
  case alloc t =>
    simp only [Option.map_eq_some_iff] at hc
    obtain ⟨z, hz, rfl⟩ := hc
    obtain ⟨rfl, rfl⟩ := Prod.mk.inj (Option.some.inj hs)
    exact .one fun {L σs w ρ} hI hun hn hr => by
      have := q_alloc (P := P) hI hz hun hn
      simpa only [execOp, hop] using this
  case box t x =>
    split at hc
    case h_2 => simp at hc
    rename_i n y h1 h2
    obtain rfl := Option.some.inj hc
    simp only [stepOp] at hs
    split at hs
    case isFalse => simp at hs
    rename_i hf
    obtain ⟨rfl, rfl⟩ := Prod.mk.inj (Option.some.inj hs)
    exact .one fun {L σs w ρ} hI hun hn hr => by
      have := q_box (P := P) (t := t) hI (hr x (by simp [hop, Op.operands]) y h2) hf hun hn
      simpa only [execOp, hop] using this
  case build t parts =>
    have hmem : ∀ p ∈ parts.toList, p.2 ∈ o.op.operands.toList := by
      intro p hp
      simp only [hop, Op.operands]
      simp only [List.mem_map]
      exact ⟨p, hp, rfl⟩
    split at hc
    · rename_i z fields hz hu
      split at hc
      case isFalse => simp at hc
      rename_i hall
      simp only [Option.map_eq_some_iff] at hc
      obtain ⟨ps, hps, rfl⟩ := hc
      simp only [stepOp, Option.map_eq_some_iff, Prod.mk.injEq] at hs
      obtain ⟨cs, hf, rfl, rfl⟩ := hs
      exact .still fun {L σs w ρ} hI _ _ hr => by
        have := q_build (P := P) hI hz hu hall hps (fun p hp => hr p.2 (hmem p hp)) hf σ.length
        simpa only [execOp, hop] using this
    · rename_i z n el hz hu
      split at hc
      case h_2 => simp at hc
      rename_i k hk
      simp only [Option.map_eq_some_iff] at hc
      obtain ⟨ps, hps, rfl⟩ := hc
      simp only [stepOp, Option.map_eq_some_iff, Prod.mk.injEq] at hs
      obtain ⟨cs, hf, rfl, rfl⟩ := hs
      exact .still fun {L σs w ρ} hI _ _ hr => by
        have := q_buildA (P := P) hI hz hu hk hps (fun p hp => hr p.2 (hmem p hp)) hf σ.length
        simpa only [execOp, hop] using this
    · simp at hc
  case buildSlice t len parts =>
    have hmem : ∀ p ∈ parts.toList, p.2 ∈ o.op.operands.toList := by
      intro p hp
      simp only [hop, Op.operands]
      simp only [List.mem_map]
      exact ⟨p, hp, rfl⟩
    split at hc
    case h_2 => simp at hc
    rename_i el hu
    split at hc
    case h_2 => simp at hc
    rename_i k z hk hz
    split at hc
    case isFalse => simp at hc
    rename_i hb
    simp only [Option.map_eq_some_iff] at hc
    obtain ⟨ps, hps, rfl⟩ := hc
    simp only [stepOp, Option.map_eq_some_iff, Prod.mk.injEq] at hs
    obtain ⟨cs, hf, rfl, rfl⟩ := hs
    exact .one fun {L σs w ρ} hI hun hn hr => by
      have := q_bslice (P := P) hI hu hk hz hb.1 hb.2.1 hb.2.2 hps (fun p hp => hr p.2 (hmem p hp)) hf hun hn
      simpa only [execOp, hop] using this
  case load t x =>
    split at hc
    case h_2 => simp at hc
    rename_i ag n y h1 h2 h3
    obtain rfl := Option.some.inj hc
    obtain rfl := still_store rfl rfl hs
    exact .still fun {L σs w ρ} hI hσ _ hr => by
      have := (q_load (P := P) hI h1 h2 (hr x (by simp [hop, Op.operands]) y h3) hσ rfl hs).2
      simpa only [execOp, hop] using this
  case store t x y =>
    split at hc
    case h_2 => simp at hc
    obtain rfl := Option.some.inj hc
    simp [AOp.isQ] at hq
  case nilCheck x =>
    simp only [Option.map_eq_some_iff] at hc
    obtain ⟨y, hy, rfl⟩ := hc
    obtain rfl := still_store rfl rfl hs
    exact .still fun {L σs w ρ} hI hσ _ hr => by
      have hr1 := hr x (by simp [hop, Op.operands]) y hy
      obtain ⟨rfl, h⟩ := q_nilck hr1 rfl hs
      refine QRes.still (cv := ρ x) hI ?_ hr1 (idsOf_zero _)
      simp only [execOp, hop]
      rcases h with ⟨a, h⟩ | ⟨f, a, b, h⟩ <;> rw [h] <;> rfl
  case binOp op t x y yt =>
    cases op
    case eql => exact q_cEq (.inl ⟨rfl, rfl⟩) hc hop hs
    case neq => exact q_cEq (.inr ⟨rfl, rfl⟩) hc hop hs
    all_goals
      simp only at hc
      split at hc
      case h_2 => simp at hc
      rename_i ax ay hx hy
      obtain rfl := Option.some.inj hc
      simp only [stepOp, Option.map_eq_some_iff, Prod.mk.injEq] at hs
      obtain ⟨u, hb, rfl, rfl⟩ := hs
      exact .still fun {L σs w ρ} hI _ _ hr => by
        obtain ⟨cv, h1, h2⟩ := binA_sound (P := P) (w := w) (t := t) (hr x (by simp [hop, Op.operands]) ax hx) (hr y (by simp [hop, Op.operands]) ay hy) hb
        simp only [execOp, hop]
        refine QRes.still hI (run_v (cv := cv) ?_) h2 (idsOf_zero _)
        rw [Sem.run_bind, h1.symm]
        rfl
  case unOp op t x =>
    simp only [Option.map_eq_some_iff] at hc
    obtain ⟨y, hy, rfl⟩ := hc
    simp only [stepOp, Option.map_eq_some_iff, Prod.mk.injEq] at hs
    obtain ⟨u, hb, rfl, rfl⟩ := hs
    exact .still fun {L σs w ρ} hI _ _ hr => by
      obtain ⟨cv, h1, h2⟩ := unA_sound (P := P) (w := w) (hr x (by simp [hop, Op.operands]) y hy) hb
      simp only [execOp, hop]
      exact .still hI (run_v h1) h2 (idsOf_zero _)
  case convert src dst x =>
    split at hc
    · rename_i k1 k y h1 h2 h3
      obtain rfl := Option.some.inj hc
      simp only [stepOp] at hs
      split at hs
      case h_2 => simp at hs
      rename_i q n hx
      obtain ⟨rfl, rfl⟩ := Prod.mk.inj (Option.some.inj hs)
      exact .still fun {L σs w ρ} hI _ _ hr => by
        have hr1 := hr x (by simp [hop, Op.operands]) y h3
        rw [hx] at hr1
        have hv : ρ x = .int q n := by generalize ρ x = qq at hr1; cases hr1; rfl
        simp only [execOp, hop, hv]
        refine QRes.still hI (run_v (cv := .int k (k.wrap n)) ?_) .int (idsOf_zero _)
        simp only [convert, Sem.run_bind, run_underlying h1, run_underlying h2, Result.andThen_ok]
        rfl
    · rename_i y h1 h2 h3
      obtain rfl := Option.some.inj hc
      simp only [stepOp] at hs
      split at hs
      case h_2 => simp at hs
      rename_i sv hx
      obtain ⟨rfl, rfl⟩ := Prod.mk.inj (Option.some.inj hs)
      exact .still fun {L σs w ρ} hI _ _ hr => by
        have hr1 := hr x (by simp [hop, Op.operands]) y h3
        rw [hx] at hr1
        have hv : ρ x = .string sv := by generalize ρ x = qq at hr1; cases hr1; rfl
        simp only [execOp, hop, hv]
        refine QRes.still hI (run_v (cv := .string sv) ?_) .str (idsOf_zero _)
        simp only [convert, Sem.run_bind, run_underlying h1, run_underlying h2, Result.andThen_ok]
        rfl
    · simp at hc
  case sliceToArrayPointer t x =>
    split at hc
    case h_2 => simp at hc
    rename_i n el y hu hy
    simp only [Option.map_eq_some_iff] at hc
    obtain ⟨k, hk, rfl⟩ := hc
    obtain rfl := still_store rfl rfl hs
    exact .still fun {L σs w ρ} hI hσ _ hr => by
      have := (q_arrp (P := P) hI hu (hr x (by simp [hop, Op.operands]) y hy) hσ rfl hs).2
      simpa only [execOp, hop] using this
  case makeInterface t x =>
    split at hc
    · simp at hc
    · rename_i d y hnd hu hy
      obtain rfl := Option.some.inj hc
      simp only [stepOp] at hs
      split at hs
      case isTrue => simp at hs
      rename_i hne
      obtain ⟨rfl, rfl⟩ := Prod.mk.inj (Option.some.inj hs)
      exact .still fun {L σs w ρ} hI _ _ hr => by
        have := q_mkif (P := P) hI hu (fun m hm => hnd m hm) (hr x (by simp [hop, Op.operands]) y hy) (by rintro e; rw [e] at hne; simp [AVal.isUnd] at hne) σ.length
        simpa only [execOp, hop] using this
    · simp at hc
  case makeFunc f first captured =>
    split at hc
    case h_2 => simp at hc
    rename_i fs cs hf hcp
    obtain rfl := Option.some.inj hc
    obtain ⟨rfl, rfl⟩ := Prod.mk.inj (Option.some.inj hs)
    exact .still fun {L σs w ρ} hI _ _ hr => by
      have := q_mkfn (P := P) (f := f) hI hf hcp (fun x hx => hr x (by simp only [hop, Op.operands, Array.toList_append, List.mem_append]; exact .inl hx))
        (fun x hx => hr x (by simp only [hop, Op.operands, Array.toList_append, List.mem_append]; exact .inr hx)) σ.length
      simpa only [execOp, hop] using this
  case makeMap t r =>
    cases r with
    | some _ => simp at hc
    | none =>
      obtain rfl := Option.some.inj hc
      obtain ⟨rfl, rfl⟩ := Prod.mk.inj (Option.some.inj hs)
      exact .one fun {L σs w ρ} hI hun hn hr => by
        have := q_mkmap (P := P) (t := t) hI hun hn
        simpa only [execOp, hop, Option.map_none] using this
  case makeSlice t l c =>
    split at hc
    case h_2 => simp at hc
    rename_i el hu
    split at hc
    case h_2 => simp at hc
    rename_i i z ol oc hi hz hl hcc
    split at hc
    case isFalse => simp at hc
    rename_i hzl
    obtain rfl := Option.some.inj hc
    -- the object that is made
    have hob : ∃ ob, σ' = σ ++ [ob] := by
      simp only [stepOp] at hs
      split at hs
      · split at hs
        · exact ⟨_, (Prod.mk.inj (Option.some.inj hs)).2.symm⟩
        · simp at hs
      · simp at hs
    obtain ⟨ob, rfl⟩ := hob
    exact .one fun {L σs w ρ} hI hun hn hr => by
      obtain ⟨ob', e1, e2⟩ := q_mkslice (P := P) hI hu hi hz hzl (hr l (by simp [hop, Op.operands]) ol hl) (hr c (by simp [hop, Op.operands]) oc hcc) rfl rfl hs
      have : ob = ob' := by simpa using List.append_cancel_left e1
      subst this
      have := e2 hun hn
      simpa only [execOp, hop] using this
  case slice t x lo hi mx =>
    have m1 : x ∈ o.op.operands.toList := by simp [hop, Op.operands]
    have m2 : ∀ y ∈ lo, y ∈ o.op.operands.toList := by intro y hy; simp [hop, Op.operands]; simp_all
    have m3 : ∀ y ∈ hi, y ∈ o.op.operands.toList := by intro y hy; simp [hop, Op.operands]; simp_all
    have m4 : ∀ y ∈ mx, y ∈ o.op.operands.toList := by intro y hy; simp [hop, Op.operands]; simp_all
    split at hc
    · rename_i ox olo ohi h1 h2 h3 h4 h5
      obtain rfl := Option.some.inj hc
      obtain rfl := still_store rfl rfl hs
      have hmx : mx = none := (optA_none h5).2 rfl
      exact .still fun {L σs w ρ} hI hσ _ hr => by
        have := (q_slstr (P := P) hI h1 (hr x m1 ox h2) rfl h3 h4 (fun y hy => hr y (m2 y hy)) (fun y hy => hr y (m3 y hy)) hs).2
        simpa only [execOp, hop, hmx, Option.map_none] using this
    · rename_i el ox olo ohi omx h1 h2 h3 h4 h5
      split at hc
      · simp at hc
      rename_i hmh
      simp only [Option.map_eq_some_iff] at hc
      obtain ⟨k, hk, rfl⟩ := hc
      obtain rfl := still_store rfl rfl hs
      exact .still fun {L σs w ρ} hI hσ _ hr => by
        have := (q_slice (P := P) hI h1 hk (hr x m1 ox h2) hσ rfl h3 h4 h5 (by cases omx <;> cases ohi <;> simp_all) (fun y hy => hr y (m2 y hy)) (fun y hy => hr y (m3 y hy)) (fun y hy => hr y (m4 y hy)) hs).2
        simpa only [execOp, hop] using this
    · rename_i n el ox olo ohi h1 h2 h3 h4 h5
      simp only [Option.map_eq_some_iff] at hc
      obtain ⟨k, hk, rfl⟩ := hc
      obtain rfl := still_store rfl rfl hs
      have hmx : mx = none := (optA_none h5).2 rfl
      exact .still fun {L σs w ρ} hI hσ _ hr => by
        have := (q_slarr (P := P) hI h1 hk (hr x m1 ox h2) hσ rfl h3 h4 (fun y hy => hr y (m2 y hy)) (fun y hy => hr y (m3 y hy)) hs).2
        simpa only [execOp, hop, hmx, Option.map_none] using this
    · simp at hc
  case fieldAddr t x f =>
    split at hc
    case h_2 => simp at hc
    rename_i fields y hu hy
    split at hc
    case h_2 => simp at hc
    rename_i fd hfd
    split at hc
    case h_2 => simp at hc
    rename_i n hn
    split at hc
    · simp at hc
    rename_i hn0
    obtain rfl := Option.some.inj hc
    obtain rfl := still_store rfl rfl hs
    exact .still fun {L σs w ρ} hI hσ _ hr => by
      have := (q_faddr (P := P) hI hu hfd hn hn0 (hr x (by simp [hop, Op.operands]) y hy) rfl hs).2
      simpa only [execOp, hop] using this
  case field t x f =>
    split at hc
    case h_2 => simp at hc
    rename_i fields y hu hy
    split at hc
    case h_2 => simp at hc
    rename_i fd hfd
    split at hc
    case h_2 => simp at hc
    rename_i n ag hn hag
    split at hc
    · simp at hc
    obtain rfl := Option.some.inj hc
    obtain rfl := still_store rfl rfl hs
    exact .still fun {L σs w ρ} hI hσ _ hr => by
      have := (q_field (P := P) hI hu hfd hn hag (hr x (by simp [hop, Op.operands]) y hy) rfl hs).2
      simpa only [execOp, hop] using this
  case indexAddr t x i =>
    split at hc
    · rename_i el ox oi hu hx hi
      simp only [Option.map_eq_some_iff] at hc
      obtain ⟨k, hk, rfl⟩ := hc
      obtain rfl := still_store rfl rfl hs
      exact .still fun {L σs w ρ} hI hσ _ hr => by
        have := (q_iaddr (P := P) hI hu hk (hr x (by simp [hop, Op.operands]) ox hx) (hr i (by simp [hop, Op.operands]) oi hi) hσ rfl rfl hs).2
        simpa only [execOp, hop] using this
    · rename_i n el ox oi hu hx hi
      simp only [Option.map_eq_some_iff] at hc
      obtain ⟨k, hk, rfl⟩ := hc
      obtain rfl := still_store rfl rfl hs
      exact .still fun {L σs w ρ} hI hσ _ hr => by
        have := (q_iaddrA (P := P) hI hu hk (hr x (by simp [hop, Op.operands]) ox hx) (hr i (by simp [hop, Op.operands]) oi hi) rfl rfl hs).2
        simpa only [execOp, hop] using this
    · simp at hc
  case index t x i =>
    split at hc
    · rename_i n el ox oi hu hx hi
      split at hc
      case h_2 => simp at hc
      rename_i k ag hk hag
      split at hc
      · simp at hc
      obtain rfl := Option.some.inj hc
      obtain rfl := still_store rfl rfl hs
      exact .still fun {L σs w ρ} hI hσ _ hr => by
        have := (q_idxA (P := P) hI hu hk hag (hr x (by simp [hop, Op.operands]) ox hx) (hr i (by simp [hop, Op.operands]) oi hi) rfl rfl hs).2
        simpa only [execOp, hop] using this
    · rename_i ox oi hu hx hi
      obtain rfl := Option.some.inj hc
      obtain rfl := still_store rfl rfl hs
      exact .still fun {L σs w ρ} hI hσ _ hr => by
        have := (q_idxS (P := P) hI hu (hr x (by simp [hop, Op.operands]) ox hx) (hr i (by simp [hop, Op.operands]) oi hi) rfl rfl hs).2
        simpa only [execOp, hop] using this
    · simp at hc
  case lookup t m i ok =>
    split at hc
    case h_2 => simp at hc
    rename_i kt el om oi hu hm hi
    split at hc
    case h_2 => simp at hc
    rename_i sh z hsh hz
    obtain rfl := Option.some.inj hc
    obtain rfl := still_store rfl rfl hs
    exact .still fun {L σs w ρ} hI hσ _ hr => by
      have := (q_lookup (P := P) hI hu hsh hz (hr m (by simp [hop, Op.operands]) om hm) (hr i (by simp [hop, Op.operands]) oi hi) hσ rfl rfl hs).2
      simpa only [execOp, hop] using this
  case mapUpdate t m k x =>
    split at hc
    case h_2 => simp at hc
    simp only [Option.map_eq_some_iff] at hc
    obtain ⟨_, _, rfl⟩ := hc
    simp [AOp.isQ] at hq
  case insert t m k x =>
    split at hc
    case h_2 => simp at hc
    simp only [Option.map_eq_some_iff] at hc
    obtain ⟨_, _, rfl⟩ := hc
    simp [AOp.isQ] at hq
  case extract t i =>
    simp only [Option.map_eq_some_iff] at hc
    obtain ⟨y, hy, rfl⟩ := hc
    obtain rfl := still_store rfl rfl hs
    exact .still fun {L σs w ρ} hI hσ _ hr => by
      have := (q_extr (P := P) hI (hr t (by simp [hop, Op.operands]) y hy) rfl hs).2
      simpa only [execOp, hop] using this
  case call c =>
    have hmem : ∀ x ∈ c.args.toList, x ∈ o.op.operands.toList := by
      intro x hx
      simp only [hop, Op.operands, Call.operands, Array.toList_append, List.mem_append]
      exact .inr hx
    split at hc
    · rename_i args b hargs hb
      have hexec : ∀ (ρ : Operand → Value), execOp ρ o = builtin b c.argTypes o.type (c.args.map fun | .const _ => true | _ => false) (c.args.map ρ) := by
        intro ρ
        simp only [execOp, hop, resolve, hb]
        rfl
      unfold cBuiltin at hc
      split at hc
      · -- len
        rename_i x
        obtain ⟨ax, hax, hx⟩ := opdsA1 hargs
        have key : ∀ {kd : LenK} {t0 : TypeId} {d : TypeDesc}, c.argTypes[0]? = some t0 → P.underlying t0 = some d → (match kd with | .str => d = .string | .sl => ∃ e, d = .slice e | .mp => ∃ k e, d = .map k e) →
            a = .len kd x → QOut F P o e σ v σ' := by
          intro kd t0 d ht hu hd ha
          subst ha
          obtain rfl := still_store rfl rfl hs
          exact .still fun {L σs w ρ} hI hσ _ hr => by
            have := (q_len (P := P) (ty := o.type) hI ht hu hd (hr ax (hmem ax (by simp [hax])) x hx) hσ rfl hs).2
            rw [hexec, hax]
            simpa only [builtin, List.map_toArray, List.map_cons, List.map_nil] using this
        split at hc
        · rename_i heq
          simp only [Option.bind_eq_some_iff] at heq
          obtain ⟨t0, ht, hu⟩ := heq
          exact key ht hu (kd := .str) rfl (Option.some.inj hc).symm
        · rename_i heq
          simp only [Option.bind_eq_some_iff] at heq
          obtain ⟨t0, ht, hu⟩ := heq
          exact key ht hu (kd := .sl) ⟨_, rfl⟩ (Option.some.inj hc).symm
        · rename_i heq
          simp only [Option.bind_eq_some_iff] at heq
          obtain ⟨t0, ht, hu⟩ := heq
          exact key ht hu (kd := .mp) ⟨_, _, rfl⟩ (Option.some.inj hc).symm
        · simp at hc
      · -- cap
        rename_i x
        obtain ⟨ax, hax, hx⟩ := opdsA1 hargs
        split at hc
        case h_2 => simp at hc
        rename_i heq
        simp only [Option.bind_eq_some_iff] at heq
        obtain ⟨t0, ht, hu⟩ := heq
        obtain rfl := Option.some.inj hc
        obtain rfl := still_store rfl rfl hs
        exact .still fun {L σs w ρ} hI hσ _ hr => by
          have := (q_cap (P := P) (ty := o.type) hI ht hu (hr ax (hmem ax (by simp [hax])) x hx) rfl hs).2
          rw [hexec, hax]
          simpa only [builtin, List.map_toArray, List.map_cons, List.map_nil] using this
      · -- append
        split at hc
        · split at hc
          · split at hc
            · obtain rfl := Option.some.inj hc; simp [AOp.isQ] at hq
            · simp at hc
          · simp at hc
        · split at hc
          · split at hc
            · obtain rfl := Option.some.inj hc; simp [AOp.isQ] at hq
            · simp at hc
          · simp at hc
        · simp at hc
      · split at hc
        · simp only [Option.map_eq_some_iff] at hc; obtain ⟨_, _, rfl⟩ := hc; simp [AOp.isQ] at hq
        · simp at hc
      · split at hc
        · simp only [Option.map_eq_some_iff] at hc; obtain ⟨_, _, rfl⟩ := hc; simp [AOp.isQ] at hq
        · simp at hc
      · split at hc
        · simp only [Option.map_eq_some_iff] at hc; obtain ⟨_, _, rfl⟩ := hc; simp [AOp.isQ] at hq
        · simp at hc
      · obtain rfl := Option.some.inj hc
        obtain rfl := still_store rfl rfl hs
        exact .still fun {L σs w ρ} hI hσ _ hr => by
          have := (q_minmax (P := P) (isMax := false) (ts := c.argTypes) (ty := o.type) hI hargs (fun x hx => hr x (hmem x hx)) hs).2
          rw [hexec]
          simpa only [builtin, Bool.false_eq_true, if_false] using this
      · obtain rfl := Option.some.inj hc
        obtain rfl := still_store rfl rfl hs
        exact .still fun {L σs w ρ} hI hσ _ hr => by
          have := (q_minmax (P := P) (isMax := true) (ts := c.argTypes) (ty := o.type) hI hargs (fun x hx => hr x (hmem x hx)) hs).2
          rw [hexec]
          simpa only [builtin, if_true] using this
      · simp at hc
    · obtain rfl := Option.some.inj hc; simp [AOp.isQ] at hq
    · simp only [Option.map_eq_some_iff] at hc; obtain ⟨_, _, rfl⟩ := hc; simp [AOp.isQ] at hq
    · simp at hc

end
end Go.Abs
