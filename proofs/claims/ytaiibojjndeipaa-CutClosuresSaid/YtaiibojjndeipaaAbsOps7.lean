/- Each operation of the model does what the abstract one says: the last ones. -/
import Derived.Test.YtaiibojjndeipaaAbsOps6
set_option linter.all false
namespace Go.Abs
open Go
section
variable {P : Program} {F : Frz} {L : Lay} {σ σs : Sto} {w : World}

theorem nilVal {kd : NilK} {x : Operand} (h : nilConst kd x = true) (ρ : Operand → Value) (hρ : ∀ v, ρ (.const v) = v) :
    match kd with | .sl => ρ x = .slice none 0 0 | .pt => ρ x = .pointer none | .mp => ρ x = .map none | .fn => ρ x = .nilFunc := by
  unfold nilConst at h
  split at h <;> first | exact hρ _ | simp at h

theorem equal_run {t : TypeId} {x y : Value} {b : Bool} (h : ∀ d, (Op.equalIn (d + 1) t x y).run P w = .ok b w) : (Op.equal t x y).run P w = .ok b w := h 9999

theorem q_eqnil (hI : Inv F L σs w) {t : TypeId} {d : TypeDesc} (hu : P.underlying t = some d) {kd : NilK} (hkd : nilKind d = some kd) {neg : Bool} {op : BinOp} (hop : (op = .eql ∧ neg = false) ∨ (op = .neq ∧ neg = true))
    {x y z : Operand} {ρ : Operand → Value} (hρ : ∀ v, ρ (.const v) = v) (hxy : (nilConst kd x = true ∧ z = y) ∨ (nilConst kd y = true ∧ z = x)) {v : AVal} (hv : VRel F L v (ρ z))
    {lv : List Nat} {σ : Sto} (hσ : ∀ i, i < σ.length → σs[i]? = σ[i]?) {e : Env} {oz : Opd} (ez : ev e oz = v) {u : AVal} {σ' : Sto} (hs : stepOp lv (.eqnil neg kd oz) e σ = some (u, σ')) :
    σ' = σ ∧ QRes F L σs w (idsOf σ.length 0) (Sem.run P (do pure (Next.value (← (do eqGuard op t x y (ρ x) (ρ y); binOp op t (ρ x) (ρ y))))) w) u := by
  -- is it nil
  have hcore : σ' = σ ∧ ∃ b : Bool, u = .bool (if neg then !b else b) ∧ (match kd with
      | .sl => ∃ a l c, ρ z = .slice a l c ∧ b = a.isNone
      | .pt => ∃ a, ρ z = .pointer a ∧ b = a.isNone
      | .mp => ∃ a, ρ z = .map a ∧ b = a.isNone
      | .fn => (ρ z = .nilFunc ∧ b = true) ∨ ∃ f a c, ρ z = .func f a c ∧ b = false) := by
    simp only [stepOp, ez] at hs
    split at hs
    all_goals try (simp at hs; done)
    all_goals try (obtain ⟨rfl, rfl⟩ := Prod.mk.inj (Option.some.inj hs))
    case h_1 => generalize ρ z = q at hv; cases hv; exact ⟨rfl, true, by cases neg <;> rfl, _, _, _, rfl, rfl⟩
    case h_2 => generalize ρ z = q at hv; cases hv; exact ⟨rfl, true, by cases neg <;> rfl, _, rfl, rfl⟩
    case h_3 => generalize ρ z = q at hv; cases hv; exact ⟨rfl, true, by cases neg <;> rfl, _, rfl, rfl⟩
    case h_4 => generalize ρ z = q at hv; cases hv; exact ⟨rfl, true, by cases neg <;> rfl, .inl ⟨rfl, rfl⟩⟩
    case h_5 => generalize ρ z = q at hv; cases hv; exact ⟨rfl, false, by cases neg <;> rfl, _, _, _, rfl, rfl⟩
    case h_6 => generalize ρ z = q at hv; cases hv; exact ⟨rfl, false, by cases neg <;> rfl, _, _, _, rfl, rfl⟩
    case h_7 => generalize ρ z = q at hv; cases hv; exact ⟨rfl, false, by cases neg <;> rfl, .inr ⟨_, _, _, rfl, rfl⟩⟩
    case h_8 => generalize ρ z = q at hv; cases hv; exact ⟨rfl, false, by cases neg <;> rfl, _, rfl, rfl⟩
    case h_9 => generalize ρ z = q at hv; cases hv; exact ⟨rfl, false, by cases neg <;> rfl, _, rfl, rfl⟩
    case h_10 =>
      generalize ρ z = q at hv
      cases hv with
      | ptr h0 h1 h2 h => obtain ⟨a, rfl⟩ := h1; exact ⟨rfl, false, by cases neg <;> rfl, _, rfl, rfl⟩
    case h_11 =>
      generalize ρ z = q at hv
      cases hv with
      | map h0 h1 h => obtain ⟨a, rfl⟩ := h1; exact ⟨rfl, false, by cases neg <;> rfl, _, rfl, rfl⟩
    case h_12 =>
      rename_i o gen off len k
      split at hs
      case h_2 => simp at hs
      rename_i nl cs ho
      split at hs
      case isFalse => simp at hs
      rename_i hg
      obtain ⟨rfl, rfl⟩ := Prod.mk.inj (Option.some.inj hs)
      have ho' := (hσ _ (List.getElem?_eq_some_iff.1 ho).1).trans ho
      rcases hI.readRef hv ho' hg with ⟨rfl, rfl, rfl, _, hz, _⟩ | ⟨b, top, c, elem, cap, hz, hL, hw, hlc, htop, hgc, hlen, hct, hcs, hone, hn, hrel⟩
      · exact ⟨rfl, true, by cases neg <;> rfl, _, _, _, hz, rfl⟩
      · refine ⟨rfl, false, ?_, _, _, _, hz, rfl⟩
        have : (nl && cs.isEmpty) = false := by
          cases nl with
          | false => rfl
          | true => have := hn rfl; cases cs with
            | nil => exact absurd rfl this
            | cons _ _ => rfl
        rw [this]; cases neg <;> rfl
  obtain ⟨rfl, b, rfl, hval⟩ := hcore
  refine ⟨rfl, .still hI (run_v (cv := .bool (if neg then !b else b)) ?_) .bool (idsOf_zero _)⟩
  have heq : (Op.equal t (ρ x) (ρ y)).run P w = .ok b w ∧ (eqGuard op t x y (ρ x) (ρ y)).run P w = .ok () w ∧ (∀ (o : BinOp), (o = .eql → binOp o t (ρ x) (ρ y) = do pure (.bool (← Op.equal t (ρ x) (ρ y)))) ∧
      (o = .neq → binOp o t (ρ x) (ρ y) = do pure (.bool (!(← Op.equal t (ρ x) (ρ y)))))) := by
    rcases hxy with ⟨hn, rfl⟩ | ⟨hn, rfl⟩
    · have hx := nilVal hn ρ hρ
      cases kd with
      | sl =>
        obtain ⟨a, l, c, hz, rfl⟩ := hval
        simp only at hx
        obtain ⟨el, rfl⟩ : ∃ el, d = .slice el := by cases d <;> simp [nilKind] at hkd; exact ⟨_, rfl⟩
        rw [hx, hz]
        exact ⟨equal_run fun d => by simp [Op.equalIn, run_underlying hu], by rcases hop with ⟨rfl, _⟩ | ⟨rfl, _⟩ <;> rfl, fun o => ⟨by rintro rfl; rfl, by rintro rfl; rfl⟩⟩
      | pt =>
        obtain ⟨a, hz, rfl⟩ := hval
        simp only at hx
        obtain ⟨el, rfl⟩ : ∃ el, d = .pointer el := by cases d <;> simp [nilKind] at hkd; exact ⟨_, rfl⟩
        rw [hx, hz]
        exact ⟨equal_run fun d => by simp [Op.equalIn, run_underlying hu], by rcases hop with ⟨rfl, _⟩ | ⟨rfl, _⟩ <;> rfl, fun o => ⟨by rintro rfl; rfl, by rintro rfl; rfl⟩⟩
      | mp =>
        obtain ⟨a, hz, rfl⟩ := hval
        simp only at hx
        obtain ⟨k, el, rfl⟩ : ∃ k el, d = .map k el := by cases d <;> simp [nilKind] at hkd; exact ⟨_, _, rfl⟩
        rw [hx, hz]
        exact ⟨equal_run fun d => by simp [Op.equalIn, run_underlying hu], by rcases hop with ⟨rfl, _⟩ | ⟨rfl, _⟩ <;> rfl, fun o => ⟨by rintro rfl; rfl, by rintro rfl; rfl⟩⟩
      | fn =>
        simp only at hx
        obtain ⟨p, r, vv, rfl⟩ : ∃ p r vv, d = .func p r vv := by cases d <;> simp [nilKind] at hkd; exact ⟨_, _, _, rfl⟩
        rcases hval with ⟨hz, rfl⟩ | ⟨f, a, c, hz, rfl⟩
        · rw [hx, hz]
          exact ⟨equal_run fun d => by simp [Op.equalIn, run_underlying hu], by rcases hop with ⟨rfl, _⟩ | ⟨rfl, _⟩ <;> rfl, fun o => ⟨by rintro rfl; rfl, by rintro rfl; rfl⟩⟩
        · rw [hx, hz]
          exact ⟨equal_run fun d => by simp [Op.equalIn, run_underlying hu], by rcases hop with ⟨rfl, _⟩ | ⟨rfl, _⟩ <;> rfl, fun o => ⟨by rintro rfl; rfl, by rintro rfl; rfl⟩⟩
    · have hx := nilVal hn ρ hρ
      cases kd with
      | sl =>
        obtain ⟨a, l, c, hz, rfl⟩ := hval
        simp only at hx
        obtain ⟨el, rfl⟩ : ∃ el, d = .slice el := by cases d <;> simp [nilKind] at hkd; exact ⟨_, rfl⟩
        rw [hx, hz]
        exact ⟨equal_run fun d => by cases a <;> simp [Op.equalIn, run_underlying hu], by rcases hop with ⟨rfl, _⟩ | ⟨rfl, _⟩ <;> rfl, fun o => ⟨by rintro rfl; rfl, by rintro rfl; rfl⟩⟩
      | pt =>
        obtain ⟨a, hz, rfl⟩ := hval
        simp only at hx
        obtain ⟨el, rfl⟩ : ∃ el, d = .pointer el := by cases d <;> simp [nilKind] at hkd; exact ⟨_, rfl⟩
        rw [hx, hz]
        exact ⟨equal_run fun d => by cases a <;> simp [Op.equalIn, run_underlying hu], by rcases hop with ⟨rfl, _⟩ | ⟨rfl, _⟩ <;> rfl, fun o => ⟨by rintro rfl; rfl, by rintro rfl; rfl⟩⟩
      | mp =>
        obtain ⟨a, hz, rfl⟩ := hval
        simp only at hx
        obtain ⟨k, el, rfl⟩ : ∃ k el, d = .map k el := by cases d <;> simp [nilKind] at hkd; exact ⟨_, _, rfl⟩
        rw [hx, hz]
        exact ⟨equal_run fun d => by cases a <;> simp [Op.equalIn, run_underlying hu], by rcases hop with ⟨rfl, _⟩ | ⟨rfl, _⟩ <;> rfl, fun o => ⟨by rintro rfl; rfl, by rintro rfl; rfl⟩⟩
      | fn =>
        simp only at hx
        obtain ⟨p, r, vv, rfl⟩ : ∃ p r vv, d = .func p r vv := by cases d <;> simp [nilKind] at hkd; exact ⟨_, _, _, rfl⟩
        rcases hval with ⟨hz, rfl⟩ | ⟨f, a, c, hz, rfl⟩
        · rw [hx, hz]
          exact ⟨equal_run fun d => by simp [Op.equalIn, run_underlying hu], by rcases hop with ⟨rfl, _⟩ | ⟨rfl, _⟩ <;> rfl, fun o => ⟨by rintro rfl; rfl, by rintro rfl; rfl⟩⟩
        · rw [hx, hz]
          exact ⟨equal_run fun d => by simp [Op.equalIn, run_underlying hu], by rcases hop with ⟨rfl, _⟩ | ⟨rfl, _⟩ <;> rfl, fun o => ⟨by rintro rfl; rfl, by rintro rfl; rfl⟩⟩
  obtain ⟨h1, h2, h3⟩ := heq
  rcases hop with ⟨rfl, rfl⟩ | ⟨rfl, rfl⟩
  · rw [Sem.run_bind, h2, Result.andThen_ok, (h3 .eql).1 rfl, Sem.run_bind, h1]; rfl
  · rw [Sem.run_bind, h2, Result.andThen_ok, (h3 .neq).2 rfl, Sem.run_bind, h1]; rfl

theorem q_arrp (hI : Inv F L σs w) {t el : TypeId} {n k : Nat} (hu : P.underlying t = some (.array n el)) {x : AVal} {cx : Value} (hx : VRel F L x cx)
    {lv : List Nat} {σ : Sto} (hσ : ∀ i, i < σ.length → σs[i]? = σ[i]?) {e : Env} {ox : Opd} (ex : ev e ox = x) {u : AVal} {σ' : Sto} (hs : stepOp lv (.arrp n k ox) e σ = some (u, σ')) :
    σ' = σ ∧ QRes F L σs w (idsOf σ.length 0) (Sem.run P (do pure (Next.value (← Instr.arrayAt t cx))) w) u := by
  have hrun : ∀ {a : Option Addr} {len c : Nat}, n ≤ len → (Instr.arrayAt t (.slice a len c)).run P w = .ok (.pointer a) w := by
    intro a len c h
    simp only [Instr.arrayAt, Sem.run_bind, run_underlying hu, Result.andThen_ok]
    rw [if_neg (by omega)]; rfl
  simp only [stepOp, ex] at hs
  split at hs
  · rename_i o gen off len k'
    split at hs
    case h_2 => simp at hs
    rename_i cs ho
    split at hs
    case isFalse => simp at hs
    rename_i hc
    obtain ⟨hg, rfl, hle⟩ := hc
    obtain ⟨rfl, rfl⟩ := Prod.mk.inj (Option.some.inj hs)
    have ho' := (hσ o (List.getElem?_eq_some_iff.1 ho).1).trans ho
    rcases hI.readRef hx ho' hg with ⟨h, _⟩ | ⟨b, top, c, elem, cap, rfl, hL, hw, hlc, htop, hgc, hlen, hct, hcs, hone, hn, hrel⟩
    · simp at h
    · refine ⟨rfl, .still hI (run_v (hrun hle)) ?_ (idsOf_zero _)⟩
      refine .ptr (by rw [hL]; simp) ⟨_, rfl⟩ (fun loc g hl => ?_) (fun loc hl => ?_)
      · rw [hL] at hl; injection hl with e1 e2; omega
      · rw [hL] at hl; injection hl with e1 e2; subst e1
        exact ⟨b, top, rfl, rfl⟩
  · rename_i k' xs
    split at hs
    case isFalse => simp at hs
    rename_i hc
    obtain ⟨hle, h0, rfl⟩ := hc
    obtain ⟨rfl, rfl⟩ := Prod.mk.inj (Option.some.inj hs)
    obtain ⟨a, cap, rfl, hsp, hcap, hk0⟩ := hx.listInv
    refine ⟨rfl, .still hI (run_v (hrun hle)) ?_ (idsOf_zero _)⟩
    cases hx with
    | list hs hc hk hf ho hv =>
      have hsub : ∀ (p : Nat) c, ((xs.take n).flatMap AVal.cells)[p]? = some c → (flatC xs)[p]? = some c := by
        intro p c hp
        have e1 : flatC xs = (xs.take n).flatMap AVal.cells ++ (xs.drop n).flatMap AVal.cells := by
          rw [← List.flatMap_append, List.take_append_drop]; rfl
        rw [e1, List.getElem?_append_left (List.getElem?_eq_some_iff.1 hp).1]; exact hp
      exact .fptr (hs (fun he => by subst he; simp at hle; omega)) (fun p c hp => hf p c (hsub p c hp)) (fun p c hp => ho p c (hsub p c hp)) (fun p c hp => hv p c (hsub p c hp))
  · simp at hs

end
end Go.Abs
