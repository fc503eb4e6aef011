/- Parts of the proof: AbsOps7, AbsStep, AbsStep2, AbsLv, AbsPlan, AbsFlist. -/
import Derived.Test.YtdiekiajedmaeaaJAbsOps4
import Derived.LaidEql
set_option linter.all false
/- Each operation of the model does what the abstract one says: the last ones. -/
namespace Go.Abs
open Go
variable [Inhabited Glob] [Lps]
section
variable {P : Program} {F : Frz} {L : Lay} {σ σs : Sto} {w : World}

theorem Zon {kd : NilK} {x : Operand} (h : ZcS kd x = true) (ρ : Operand → Value) (hρ : ∀ v, ρ (.const v) = v) :
  match kd with | .sl => ρ x = .slice none 0 0 | .pt => ρ x = .pointer none | .mp => ρ x = .map none | .fn => ρ x = .nilFunc := by
 unfold ZcS at h
 split at h <;> first | exact hρ _ | simp at h

theorem Zaz {t : TypeId} {x y : Value} {b : Bool} (h : ∀ d, (Op.equalIn (d + 1) t x y).run P w = .ok b w) : (Op.equal t x y).run P w = .ok b w := h 9999

theorem Zld (hI : Inv F L σs w) {t : TypeId} {d : TypeDesc} (hu : P.underlying t = some d) {kd : NilK} (hkd : ZbY d = some kd) {neg : Bool} {op : BinOp} (hop : (op = .eql ∧ neg = false) ∨ (op = .neq ∧ neg = true))
  {x y z : Operand} {ρ : Operand → Value} (hρ : ∀ v, ρ (.const v) = v) (hxy : (ZcS kd x = true ∧ z = y) ∨ (ZcS kd y = true ∧ z = x)) {v : AVal} (hv : VRel F L v (ρ z))
  {lv : List Nat} {σ : Sto} (hσ : ∀ i, i < σ.length → σs[i]? = σ[i]?) {e : Env} {oz : Opd} (ez : ev e oz = v) {u : AVal} {σ' : Sto} (hs : Zc lv (.eqnil neg kd oz) e σ = some (u, σ')) :
  σ' = σ ∧ Zaw F L σs w (ZT σ.length 0) (Sem.run P (do pure (Next.value (← (do eqGuard op t x y (ρ x) (ρ y); binOp op t (ρ x) (ρ y))))) w) u := by
 -- is it nil
 have hcore : σ' = σ ∧ ∃ b : Bool, u = .bool (if neg then !b else b) ∧ (match kd with
   | .sl => ∃ a l c, ρ z = .slice a l c ∧ b = a.isNone
   | .pt => ∃ a, ρ z = .pointer a ∧ b = a.isNone
   | .mp => ∃ a, ρ z = .map a ∧ b = a.isNone
   | .fn => (ρ z = .nilFunc ∧ b = true) ∨ ∃ f a c, ρ z = .func f a c ∧ b = false) := by
  simp only [Zc, ez] at hs
  split at hs
  all_goals try (simp at hs; done)
  all_goals try (obtain ⟨rfl, rfl⟩ := Prod.mk.inj (Option.some.inj hs))
  case h_1 => generalize ρ z = q at hv; cases hv; exact ⟨rfl, true, by cases neg <;> rfl, _, _, _, rfl, rfl⟩
  case h_2 => generalize ρ z = q at hv; cases hv; exact ⟨rfl, true, by cases neg <;> rfl, _, rfl, rfl⟩
  case h_3 => generalize ρ z = q at hv; cases hv; exact ⟨rfl, true, by cases neg <;> rfl, _, rfl, rfl⟩
  case h_4 => generalize ρ z = q at hv; cases hv; exact ⟨rfl, true, by cases neg <;> rfl, .inl ⟨rfl, rfl⟩⟩
  case h_5 => generalize ρ z = q at hv; cases hv; exact ⟨rfl, false, by cases neg <;> rfl, _, _, _, rfl, rfl⟩
  case h_6 => generalize ρ z = q at hv; cases hv; exact ⟨rfl, false, by cases neg <;> rfl, _, _, _, rfl, rfl⟩
  case h_7 => generalize ρ z = q at hv; cases hv; exact ⟨rfl, false, by cases neg <;> rfl, .inr ⟨_, _, _, rfl, rfl⟩⟩
  case h_8 => generalize ρ z = q at hv; cases hv; exact ⟨rfl, false, by cases neg <;> rfl, _, rfl, rfl⟩
  case h_9 => generalize ρ z = q at hv; cases hv; exact ⟨rfl, false, by cases neg <;> rfl, _, rfl, rfl⟩
  case h_10 =>
   generalize ρ z = q at hv
   cases hv with
   | ptr h0 h1 h2 h => obtain ⟨a, rfl⟩ := h1; exact ⟨rfl, false, by cases neg <;> rfl, _, rfl, rfl⟩
  case h_11 =>
   generalize ρ z = q at hv
   cases hv with
   | map h0 h1 h => obtain ⟨a, rfl⟩ := h1; exact ⟨rfl, false, by cases neg <;> rfl, _, rfl, rfl⟩
  case h_12 =>
   rename_i o gen off len k
   split at hs
   case h_2 => simp at hs
   rename_i nl cs ho
   split at hs
   case isFalse => simp at hs
   rename_i hg
   obtain ⟨rfl, rfl⟩ := Prod.mk.inj (Option.some.inj hs)
   have ho' := (hσ _ (List.getElem?_eq_some_iff.1 ho).1).trans ho
   rcases hI.readRef hv ho' hg with ⟨rfl, rfl, rfl, _, hz, _⟩ | ⟨b, top, c, elem, cap, hz, hL, hw, hlc, htop, hgc, hlen, hct, hcs, hone, hn, hrel⟩
   ·exact ⟨rfl, true, by cases neg <;> rfl, _, _, _, hz, rfl⟩
   ·refine ⟨rfl, false, ?_, _, _, _, hz, rfl⟩
    have : (nl && cs.isEmpty) = false := by
     cases nl with
     | false => rfl
     | true => have := hn rfl; cases cs with
      | nil => exact absurd rfl this
      | cons _ _ => rfl
    rw [this]; cases neg <;> rfl
 obtain ⟨rfl, b, rfl, hval⟩ := hcore
 refine ⟨rfl, .still hI (Zv (cv := .bool (if neg then !b else b)) ?_) .bool (Zd _)⟩
 have heq : (Op.equal t (ρ x) (ρ y)).run P w = .ok b w ∧ (eqGuard op t x y (ρ x) (ρ y)).run P w = .ok () w ∧ (∀ (o : BinOp), (o = .eql → binOp o t (ρ x) (ρ y) = do pure (.bool (← Op.equal t (ρ x) (ρ y)))) ∧
   (o = .neq → binOp o t (ρ x) (ρ y) = do pure (.bool (!(← Op.equal t (ρ x) (ρ y)))))) := by
  rcases hxy with ⟨hn, rfl⟩ | ⟨hn, rfl⟩
  ·have hx := Zon hn ρ hρ
   cases kd with
   | sl =>
    obtain ⟨a, l, c, hz, rfl⟩ := hval
    simp only at hx
    obtain ⟨el, rfl⟩ : ∃ el, d = .slice el := by cases d <;> simp [ZbY] at hkd; exact ⟨_, rfl⟩
    rw [hx, hz]
    exact ⟨Zaz fun d => by simp [Op.equalIn, run_underlying hu], by rcases hop with ⟨rfl, _⟩ | ⟨rfl, _⟩ <;> rfl, fun o => ⟨by rintro rfl; rfl, by rintro rfl; rfl⟩⟩
   | pt =>
    obtain ⟨a, hz, rfl⟩ := hval
    simp only at hx
    obtain ⟨el, rfl⟩ : ∃ el, d = .pointer el := by cases d <;> simp [ZbY] at hkd; exact ⟨_, rfl⟩
    rw [hx, hz]
    exact ⟨Zaz fun d => by simp [Op.equalIn, run_underlying hu], by rcases hop with ⟨rfl, _⟩ | ⟨rfl, _⟩ <;> rfl, fun o => ⟨by rintro rfl; rfl, by rintro rfl; rfl⟩⟩
   | mp =>
    obtain ⟨a, hz, rfl⟩ := hval
    simp only at hx
    obtain ⟨k, el, rfl⟩ : ∃ k el, d = .map k el := by cases d <;> simp [ZbY] at hkd; exact ⟨_, _, rfl⟩
    rw [hx, hz]
    exact ⟨Zaz fun d => by simp [Op.equalIn, run_underlying hu], by rcases hop with ⟨rfl, _⟩ | ⟨rfl, _⟩ <;> rfl, fun o => ⟨by rintro rfl; rfl, by rintro rfl; rfl⟩⟩
   | fn =>
    simp only at hx
    obtain ⟨p, r, vv, rfl⟩ : ∃ p r vv, d = .func p r vv := by cases d <;> simp [ZbY] at hkd; exact ⟨_, _, _, rfl⟩
    rcases hval with ⟨hz, rfl⟩ | ⟨f, a, c, hz, rfl⟩
    ·rw [hx, hz]
     exact ⟨Zaz fun d => by simp [Op.equalIn, run_underlying hu], by rcases hop with ⟨rfl, _⟩ | ⟨rfl, _⟩ <;> rfl, fun o => ⟨by rintro rfl; rfl, by rintro rfl; rfl⟩⟩
    ·rw [hx, hz]
     exact ⟨Zaz fun d => by simp [Op.equalIn, run_underlying hu], by rcases hop with ⟨rfl, _⟩ | ⟨rfl, _⟩ <;> rfl, fun o => ⟨by rintro rfl; rfl, by rintro rfl; rfl⟩⟩
  ·have hx := Zon hn ρ hρ
   cases kd with
   | sl =>
    obtain ⟨a, l, c, hz, rfl⟩ := hval
    simp only at hx
    obtain ⟨el, rfl⟩ : ∃ el, d = .slice el := by cases d <;> simp [ZbY] at hkd; exact ⟨_, rfl⟩
    rw [hx, hz]
    exact ⟨Zaz fun d => by cases a <;> simp [Op.equalIn, run_underlying hu], by rcases hop with ⟨rfl, _⟩ | ⟨rfl, _⟩ <;> rfl, fun o => ⟨by rintro rfl; rfl, by rintro rfl; rfl⟩⟩
   | pt =>
    obtain ⟨a, hz, rfl⟩ := hval
    simp only at hx
    obtain ⟨el, rfl⟩ : ∃ el, d = .pointer el := by cases d <;> simp [ZbY] at hkd; exact ⟨_, rfl⟩
    rw [hx, hz]
    exact ⟨Zaz fun d => by cases a <;> simp [Op.equalIn, run_underlying hu], by rcases hop with ⟨rfl, _⟩ | ⟨rfl, _⟩ <;> rfl, fun o => ⟨by rintro rfl; rfl, by rintro rfl; rfl⟩⟩
   | mp =>
    obtain ⟨a, hz, rfl⟩ := hval
    simp only at hx
    obtain ⟨k, el, rfl⟩ : ∃ k el, d = .map k el := by cases d <;> simp [ZbY] at hkd; exact ⟨_, _, rfl⟩
    rw [hx, hz]
    exact ⟨Zaz fun d => by cases a <;> simp [Op.equalIn, run_underlying hu], by rcases hop with ⟨rfl, _⟩ | ⟨rfl, _⟩ <;> rfl, fun o => ⟨by rintro rfl; rfl, by rintro rfl; rfl⟩⟩
   | fn =>
    simp only at hx
    obtain ⟨p, r, vv, rfl⟩ : ∃ p r vv, d = .func p r vv := by cases d <;> simp [ZbY] at hkd; exact ⟨_, _, _, rfl⟩
    rcases hval with ⟨hz, rfl⟩ | ⟨f, a, c, hz, rfl⟩
    ·rw [hx, hz]
     exact ⟨Zaz fun d => by simp [Op.equalIn, run_underlying hu], by rcases hop with ⟨rfl, _⟩ | ⟨rfl, _⟩ <;> rfl, fun o => ⟨by rintro rfl; rfl, by rintro rfl; rfl⟩⟩
    ·rw [hx, hz]
     exact ⟨Zaz fun d => by simp [Op.equalIn, run_underlying hu], by rcases hop with ⟨rfl, _⟩ | ⟨rfl, _⟩ <;> rfl, fun o => ⟨by rintro rfl; rfl, by rintro rfl; rfl⟩⟩
 obtain ⟨h1, h2, h3⟩ := heq
 rcases hop with ⟨rfl, rfl⟩ | ⟨rfl, rfl⟩
 ·rw [Sem.run_bind, h2, Result.andThen_ok, (h3 .eql).1 rfl, Sem.run_bind, h1]; rfl
 ·rw [Sem.run_bind, h2, Result.andThen_ok, (h3 .neq).2 rfl, Sem.run_bind, h1]; rfl

theorem ZtQ (hI : Inv F L σs w) {t el : TypeId} (hu : P.underlying t = some (.pointer el)) {m : Nat} (hsz : Z1 P el = some (m + 1)) {neg : Bool} {op : BinOp} (hop : (op = .eql ∧ neg = false) ∨ (op = .neq ∧ neg = true))
  {x y : Operand} {ρ : Operand → Value} {vx vy : AVal} (hx : VRel F L vx (ρ x)) (hy : VRel F L vy (ρ y))
  {lv : List Nat} {σ : Sto} (hσ : ∀ i, i < σ.length → σs[i]? = σ[i]?) {e : Env} {ox oy : Opd} (ex : ev e ox = vx) (ey : ev e oy = vy) {u : AVal} {σ' : Sto} (hs : Zc lv (.eqp neg ox oy) e σ = some (u, σ')) :
  σ' = σ ∧ Zaw F L σs w (ZT σ.length 0) (Sem.run P (do pure (Next.value (← (do eqGuard op t x y (ρ x) (ρ y); binOp op t (ρ x) (ρ y))))) w) u := by
 have hcore : σ' = σ ∧ ∃ b : Bool, u = .bool (if neg then !b else b) ∧ ∃ p q : Option Addr, ρ x = .pointer p ∧ ρ y = .pointer q ∧ ∀ d, (Op.equalIn (d + 1) t (.pointer p) (.pointer q)).run P w = .ok b w := by
  simp only [Zc, ex, ey] at hs
  split at hs
  all_goals try (simp at hs; done)
  case h_1 =>
   obtain ⟨rfl, rfl⟩ := Prod.mk.inj (Option.some.inj hs)
   generalize ρ x = p at hx
   generalize ρ y = q at hy
   cases hx; cases hy
   exact ⟨rfl, true, by cases neg <;> rfl, none, none, rfl, rfl, fun d => by simp [Op.equalIn, run_underlying hu]⟩
  case h_2 =>
   obtain ⟨rfl, rfl⟩ := Prod.mk.inj (Option.some.inj hs)
   generalize ρ x = p at hx
   generalize ρ y = q at hy
   cases hx
   cases hy with
   | ptr h0 h1 h2 h =>
    obtain ⟨a, rfl⟩ := h1
    exact ⟨rfl, false, by cases neg <;> rfl, none, some a, rfl, rfl, fun d => by simp [Op.equalIn, run_underlying hu]⟩
  case h_3 =>
   obtain ⟨rfl, rfl⟩ := Prod.mk.inj (Option.some.inj hs)
   generalize ρ x = p at hx
   generalize ρ y = q at hy
   cases hy
   cases hx with
   | ptr h0 h1 h2 h =>
    obtain ⟨a, rfl⟩ := h1
    exact ⟨rfl, false, by cases neg <;> rfl, some a, none, rfl, rfl, fun d => by simp [Op.equalIn, run_underlying hu]⟩
  case h_4 =>
   rename_i o gen off o' gen' off'
   split at hs
   case h_2 => simp at hs
   rename_i nl cs nl' cs' ho ho'
   split at hs
   case isFalse => simp at hs
   rename_i hg
   obtain ⟨rfl, rfl⟩ := Prod.mk.inj (Option.some.inj hs)
   have ho1 := (hσ _ (List.getElem?_eq_some_iff.1 ho).1).trans ho
   have ho2 := (hσ _ (List.getElem?_eq_some_iff.1 ho').1).trans ho'
   obtain ⟨b, top, c, elem, hz, hL, hw, _⟩ := hI.readPtr hx ho1 hg.1
   obtain ⟨b', top', c', elem', hz', hL', hw', _⟩ := hI.readPtr hy ho2 hg.2
   refine ⟨rfl, decide (o = o' ∧ off = off'), by cases neg <;> rfl, _, _, hz, hz', fun d => ?_⟩
   have hs : (Op.equalIn (d + 1) t (.pointer (some ⟨b, off, none⟩)) (.pointer (some ⟨b', off', none⟩))).run P w = (sameAddr ⟨b, off, none⟩ ⟨b', off', none⟩).run P w := by
    simp only [Op.equalIn, Sem.run_bind, run_underlying hu, Result.andThen_ok, Zx hsz w]
    rw [if_pos (by simp)]
   rw [hs]
   by_cases hc : o = o' ∧ off = off'
   ·obtain ⟨rfl, rfl⟩ := hc
    rw [hL] at hL'
    injection hL' with e1 e2
    injection e1 with e1 e3
    subst e1
    rw [decide_eq_true ⟨rfl, rfl⟩]
    exact run_sameAddr_same w _
   ·rw [decide_eq_false hc]
    refine run_sameAddr_other w (fun e => hc ?_) hw hw'
    injection e with e1 e2
    subst e1
    exact ⟨hI.inj o o' _ _ _ _ b hL hL' rfl rfl, e2⟩
 obtain ⟨rfl, b, rfl, p, q, hp, hq, hval⟩ := hcore
 refine ⟨rfl, .still hI (Zv (cv := .bool (if neg then !b else b)) ?_) .bool (Zd _)⟩
 rw [hp, hq]
 have h1 : (Op.equal t (.pointer p) (.pointer q)).run P w = .ok b w := Zaz hval
 have h2 : (eqGuard op t x y (.pointer p) (.pointer q)).run P w = .ok () w := by rcases hop with ⟨rfl, _⟩ | ⟨rfl, _⟩ <;> rfl
 rcases hop with ⟨rfl, rfl⟩ | ⟨rfl, rfl⟩
 ·rw [Sem.run_bind, h2, Result.andThen_ok, show binOp .eql t (.pointer p) (.pointer q) = (do pure (.bool (← Op.equal t (.pointer p) (.pointer q)))) from rfl, Sem.run_bind, h1]; rfl
 ·rw [Sem.run_bind, h2, Result.andThen_ok, show binOp .neq t (.pointer p) (.pointer q) = (do pure (.bool (!(← Op.equal t (.pointer p) (.pointer q))))) from rfl, Sem.run_bind, h1]; rfl

theorem Zrm (hI : Inv F L σs w) {t el : TypeId} {n k : Nat} (hu : P.underlying t = some (.array n el)) {x : AVal} {cx : Value} (hx : VRel F L x cx)
  {lv : List Nat} {σ : Sto} (hσ : ∀ i, i < σ.length → σs[i]? = σ[i]?) {e : Env} {ox : Opd} (ex : ev e ox = x) {u : AVal} {σ' : Sto} (hs : Zc lv (.arrp n k ox) e σ = some (u, σ')) :
  σ' = σ ∧ Zaw F L σs w (ZT σ.length 0) (Sem.run P (do pure (Next.value (← Instr.arrayAt t cx))) w) u := by
 have hrun : ∀ {a : Option Addr} {len c : Nat}, n ≤ len → (Instr.arrayAt t (.slice a len c)).run P w = .ok (.pointer a) w := by
  intro a len c h
  simp only [Instr.arrayAt, Sem.run_bind, run_underlying hu, Result.andThen_ok]
  rw [if_neg (by omega)]; rfl
 simp only [Zc, ex] at hs
 split at hs
 ·rename_i o gen off len k'
  split at hs
  case h_2 => simp at hs
  rename_i cs ho
  split at hs
  case isFalse => simp at hs
  rename_i hc
  obtain ⟨hg, rfl, hle⟩ := hc
  obtain ⟨rfl, rfl⟩ := Prod.mk.inj (Option.some.inj hs)
  have ho' := (hσ o (List.getElem?_eq_some_iff.1 ho).1).trans ho
  rcases hI.readRef hx ho' hg with ⟨h, _⟩ | ⟨b, top, c, elem, cap, rfl, hL, hw, hlc, htop, hgc, hlen, hct, hcs, hone, hn, hrel⟩
  ·simp at h
  ·refine ⟨rfl, .still hI (Zv (hrun hle)) ?_ (Zd _)⟩
   refine .ptr (by rw [hL]; simp) ⟨_, rfl⟩ (fun loc g hl => ?_) (fun loc hl => ?_)
   ·rw [hL] at hl; injection hl with e1 e2; omega
   ·rw [hL] at hl; injection hl with e1 e2; subst e1
    exact ⟨b, top, rfl, rfl⟩
 ·rename_i k' xs
  split at hs
  case isFalse => simp at hs
  rename_i hc
  obtain ⟨hle, h0, rfl⟩ := hc
  obtain ⟨rfl, rfl⟩ := Prod.mk.inj (Option.some.inj hs)
  obtain ⟨a, cap, rfl, hsp, hcap, hk0⟩ := hx.listInv
  refine ⟨rfl, .still hI (Zv (hrun hle)) ?_ (Zd _)⟩
  cases hx with
  | list hs hc hk hf ho hv =>
   have hsub : ∀ (p : Nat) c, ((xs.take n).flatMap AVal.cells)[p]? = some c → (ZV xs)[p]? = some c := by
    intro p c hp
    have e1 : ZV xs = (xs.take n).flatMap AVal.cells ++ (xs.drop n).flatMap AVal.cells := by
     rw [← List.flatMap_append, List.take_append_drop]; rfl
    rw [e1, List.getElem?_append_left (List.getElem?_eq_some_iff.1 hp).1]; exact hp
   exact .fptr (hs (fun he => by subst he; simp at hle; omega)) (fun p c hp => hf p c (hsub p c hp)) (fun p c hp => ho p c (hsub p c hp)) (fun p c hp => hv p c (hsub p c hp))
 ·simp at hs

end
end Go.Abs
/- The operations together. -/
namespace Go.Abs
open Go
variable [Inhabited Glob] [Lps]

def AOp.isQ : AOp → Bool
  | .store .. | .mapup .. | .append .. | .appendz .. | .appendF .. | .copy .. | .clear .. | .delete .. | .mapent .. | .entst .. | .allocn .. | .call .. | .callv .. => false
  | _ => true
def AOp.isCall : AOp → Bool
  | .call .. | .callv .. => true
  | _ => false

section
variable {P : Program} {F : Frz} {L : Lay} {σ σs : Sto} {w : World}

structure Watch (L : Lay) (σ new σs : Sto) : Prop where
  pre : ∀ i, i < σ.length → σs[i]? = σ[i]?
  new_ : ∀ i ob, new[i]? = some ob → σs[σ.length + i]? = some ob ∧ L (σ.length + i) = .un

def Zgq (F : Frz) (P : Program) (o : Oper) (e : Env) (σ : Sto) (v : AVal) (σ' : Sto) : Prop :=
  ∃ new, σ' = σ ++ new ∧ ∀ {L : Lay} {σs : Sto} {w : World} {ρ : Operand → Value}, Inv F L σs w → Watch L σ new σs → (∀ v, ρ (.const v) = v) → (∀ x ∈ o.op.operands.toList, Zaf F L e ρ x) →
    Zaw F L σs w (ZT σ.length new.length) ((execOp ρ o).run P w) v

theorem Zgq.still {o : Oper} {e : Env} {v : AVal} (h : ∀ {L : Lay} {σs : Sto} {w : World} {ρ : Operand → Value}, Inv F L σs w → (∀ i, i < σ.length → σs[i]? = σ[i]?) → (∀ v, ρ (.const v) = v) →
    (∀ x ∈ o.op.operands.toList, Zaf F L e ρ x) → Zaw F L σs w (ZT σ.length 0) ((execOp ρ o).run P w) v) : Zgq F P o e σ v σ :=
  ⟨[], by simp, fun hI hW hρ hr => h hI hW.pre hρ hr⟩

theorem Zgq.one {o : Oper} {e : Env} {v : AVal} {ob : AObj} (h : ∀ {L : Lay} {σs : Sto} {w : World} {ρ : Operand → Value}, Inv F L σs w → L σ.length = .un → σs[σ.length]? = some ob →
    (∀ x ∈ o.op.operands.toList, Zaf F L e ρ x) → Zaw F L σs w (ZT σ.length 1) ((execOp ρ o).run P w) v) : Zgq F P o e σ v (σ ++ [ob]) :=
  ⟨[ob], rfl, fun hI hW _ hr => h hI (hW.new_ 0 ob rfl).2 (hW.new_ 0 ob rfl).1 hr⟩

theorem Zkv {xs : Array Operand} {x : Opd} (h : Zdq xs = some [x]) : ∃ ax, xs = #[ax] ∧ ZR ax = some x := by
  obtain ⟨h1, h2⟩ := ZC _ h
  rcases xs with ⟨l⟩
  cases l with
  | nil => simp at h1
  | cons a l =>
    cases l with
    | nil => obtain ⟨y, hy, ho⟩ := h2 0 a rfl; simp at hy; exact ⟨a, rfl, by rw [ho, ← hy]⟩
    | cons b l => simp at h1

theorem Zkw {xs : Array Operand} {x y : Opd} (h : Zdq xs = some [x, y]) : ∃ ax ay, xs = #[ax, ay] ∧ ZR ax = some x ∧ ZR ay = some y := by
  obtain ⟨h1, h2⟩ := ZC _ h
  rcases xs with ⟨l⟩
  cases l with
  | nil => simp at h1
  | cons a l =>
    cases l with
    | nil => simp at h1
    | cons b l =>
      cases l with
      | nil =>
        obtain ⟨u, hu, ho⟩ := h2 0 a rfl
        obtain ⟨u', hu', ho'⟩ := h2 1 b rfl
        simp at hu hu'
        exact ⟨a, b, rfl, by rw [ho, ← hu], by rw [ho', ← hu']⟩
      | cons c l => simp at h1

theorem ZqN {neg : Bool} {op : BinOp} (hop : (op = .eql ∧ neg = false) ∨ (op = .neq ∧ neg = true)) {t yt : TypeId} {x y : Operand} {a : AOp} (hc : cEq P neg op t x y = some a) {o : Oper} (ho : o.op = .binOp op t x y yt)
    {lv : List Nat} {e : Env} {v : AVal} {σ' : Sto} (hs : Zc lv a e σ = some (v, σ')) : Zgq F P o e σ v σ' := by
  have hex : ∀ (ρ : Operand → Value), execOp ρ o = (do pure (Next.value (← (do eqGuard op t x y (ρ x) (ρ y); binOp op t (ρ x) (ρ y))))) := by
    intro ρ; simp only [execOp, ho]
  have hmem : x ∈ o.op.operands.toList ∧ y ∈ o.op.operands.toList := by rw [ho]; simp [Op.operands]
  unfold cEq at hc
  split at hc
  · rename_i k hu
    split at hc
    case h_2 => simp at hc
    rename_i ax ay hx hy
    obtain rfl := Option.some.inj hc
    simp only [Zc, Option.map_eq_some_iff, Prod.mk.injEq] at hs
    obtain ⟨u, hb, rfl, rfl⟩ := hs
    refine .still fun {L σs w ρ} hI _ _ hr => ?_
    obtain ⟨cv, h1, h2⟩ := Zel (P := P) (w := w) (t := t) (hr x hmem.1 ax hx) (hr y hmem.2 ay hy) hb
    have hg : (eqGuard op t x y (ρ x) (ρ y)).run P w = .ok () w := by
      have hr1 := hr x hmem.1 ax hx
      have : ∃ k n, ρ x = .int k n ∨ ∃ s, ρ x = .string s := by
        unfold ZcE at hb
        split at hb
        · rename_i heq _; rw [heq] at hr1; generalize ρ x = q at hr1; cases hr1; exact ⟨_, _, .inl rfl⟩
        · rename_i heq _; rw [heq] at hr1; generalize ρ x = q at hr1; cases hr1; exact ⟨.i64, 0, .inr ⟨_, rfl⟩⟩
        · simp at hb
      obtain ⟨k, n, h | ⟨s, h⟩⟩ := this
      · rw [h, eqGuard_at_int]; rfl
      · rw [h, eqGuard_at_string]; rfl
    rw [hex]
    exact .still hI (Zv (by rw [Sem.run_bind, hg, Result.andThen_ok]; exact h1)) h2 (Zd _)
  · rename_i hu
    split at hc
    case h_2 => simp at hc
    rename_i ax ay hx hy
    obtain rfl := Option.some.inj hc
    simp only [Zc, Option.map_eq_some_iff, Prod.mk.injEq] at hs
    obtain ⟨u, hb, rfl, rfl⟩ := hs
    refine .still fun {L σs w ρ} hI _ _ hr => ?_
    obtain ⟨cv, h1, h2⟩ := Zel (P := P) (w := w) (t := t) (hr x hmem.1 ax hx) (hr y hmem.2 ay hy) hb
    have hg : (eqGuard op t x y (ρ x) (ρ y)).run P w = .ok () w := by
      have hr1 := hr x hmem.1 ax hx
      have : ∃ k n, ρ x = .int k n ∨ ∃ s, ρ x = .string s := by
        unfold ZcE at hb
        split at hb
        · rename_i heq _; rw [heq] at hr1; generalize ρ x = q at hr1; cases hr1; exact ⟨_, _, .inl rfl⟩
        · rename_i heq _; rw [heq] at hr1; generalize ρ x = q at hr1; cases hr1; exact ⟨.i64, 0, .inr ⟨_, rfl⟩⟩
        · simp at hb
      obtain ⟨k, n, h | ⟨s, h⟩⟩ := this
      · rw [h, eqGuard_at_int]; rfl
      · rw [h, eqGuard_at_string]; rfl
    rw [hex]
    exact .still hI (Zv (by rw [Sem.run_bind, hg, Result.andThen_ok]; exact h1)) h2 (Zd _)
  all_goals try (
    rename_i hu
    split at hc
    case h_2 => simp at hc
    rename_i sh ax ay hsh hx hy
    split at hc
    case isTrue => simp at hc
    rename_i hg
    obtain rfl := Option.some.inj hc
    simp only [Zc, Option.map_eq_some_iff, Prod.mk.injEq] at hs
    obtain ⟨b, hb, rfl, rfl⟩ := hs
    refine Zgq.still fun {L σs w ρ} hI _ _ hr => ?_
    have := Zl8 (P := P) (w := w) hop hsh (by first | exact .inl hu | exact .inr (.inl ⟨_, hu⟩) | exact .inr (.inr ⟨_, _, hu⟩)) (by simpa using hg) (ox := x) (oy := y) (hr x hmem.1 ax hx) (hr y hmem.2 ay hy) hb
    rw [hex]
    exact .still hI (Zv this) .bool (Zd _)
    done)
  · rename_i d _ _ _ _ _ hu
    split at hc
    case h_2 => simp at hc
    rename_i kd hkd
    split at hc
    · rename_i hn
      simp only [Option.map_eq_some_iff] at hc
      obtain ⟨ay, hy, rfl⟩ := hc
      have hσ' : σ' = σ := by
        simp only [Zc] at hs
        split at hs
        all_goals first
          | exact (Prod.mk.inj (Option.some.inj hs)).2.symm
          | (simp at hs; done)
          | (split at hs
             · split at hs
               · exact (Prod.mk.inj (Option.some.inj hs)).2.symm
               · simp at hs
             · simp at hs)
      subst hσ'
      refine Zgq.still fun {L σs w ρ} hI hσ hρ hr => ?_
      rw [hex]
      exact (Zld (P := P) hI hu hkd hop hρ (.inl ⟨hn, rfl⟩) (hr y hmem.2 ay hy) hσ rfl hs).2
    · split at hc
      · rename_i hn
        simp only [Option.map_eq_some_iff] at hc
        obtain ⟨ax, hx, rfl⟩ := hc
        have hσ' : σ' = σ := by
          simp only [Zc] at hs
          split at hs
          all_goals first
            | exact (Prod.mk.inj (Option.some.inj hs)).2.symm
            | (simp at hs; done)
            | (split at hs
               · split at hs
                 · exact (Prod.mk.inj (Option.some.inj hs)).2.symm
                 · simp at hs
               · simp at hs)
        subst hσ'
        refine Zgq.still fun {L σs w ρ} hI hσ hρ hr => ?_
        rw [hex]
        exact (Zld (P := P) hI hu hkd hop hρ (.inr ⟨hn, rfl⟩) (hr x hmem.1 ax hx) hσ rfl hs).2
      · split at hc
        case h_2 => simp at hc
        rename_i el _ _
        split at hc
        case h_2 => simp at hc
        rename_i m ax ay hsz hx hy
        obtain rfl := Option.some.inj hc
        have hσ' : σ' = σ := by
          simp only [Zc] at hs
          split at hs
          all_goals first
            | exact (Prod.mk.inj (Option.some.inj hs)).2.symm
            | (simp at hs; done)
            | (split at hs
               · split at hs
                 · exact (Prod.mk.inj (Option.some.inj hs)).2.symm
                 · simp at hs
               · simp at hs)
        subst hσ'
        refine Zgq.still fun {L σs w ρ} hI hσ hρ hr => ?_
        rw [hex]
        exact (ZtQ (P := P) hI hu hsz hop (hr x hmem.1 ax hx) (hr y hmem.2 ay hy) hσ rfl rfl hs).2
  · simp at hc

def AOp.makes : AOp → Bool
  | .alloc .. | .box .. | .bslice .. | .mkmap | .mkslice .. => true
  | _ => false

theorem ZB {a : AOp} (hq : a.isQ = true) (hm : a.makes = false) {lv : List Nat} {e : Env} {v : AVal} {σ' : Sto} (hs : Zc lv a e σ = some (v, σ')) : σ' = σ := by
  cases a <;> first
    | (simp [AOp.isQ] at hq; done)
    | (simp [AOp.makes] at hm; done)
    | skip
  all_goals
    simp only [Zc] at hs
    first
    | exact (Prod.mk.inj (Option.some.inj hs)).2.symm
    | (simp only [Option.map_eq_some_iff, Prod.mk.injEq] at hs; obtain ⟨_, _, _, rfl⟩ := hs; rfl)
    | (simp only [Option.bind_eq_some_iff] at hs; obtain ⟨_, _, hs⟩ := hs; split at hs <;> first | exact (Prod.mk.inj (Option.some.inj hs)).2.symm | (simp at hs; done))
    | (repeat' split at hs)
  all_goals first
    | exact (Prod.mk.inj (Option.some.inj hs)).2.symm
    | (simp only [Option.map_eq_some_iff, Prod.mk.injEq] at hs; obtain ⟨_, _, _, rfl⟩ := hs; rfl)
    | (simp at hs; done)

theorem Zgr {o : Oper} {a : AOp} (hc : cOp P o = some a) (hq : a.isQ = true) {lv : List Nat} {e : Env} {v : AVal} {σ' : Sto} (hs : Zc lv a e σ = some (v, σ')) : Zgq F P o e σ v σ' := by
  cases hop : o.op <;> simp only [cOp, hop, reduceCtorEq] at hc
  case move x =>
    simp only [Option.map_eq_some_iff] at hc
    obtain ⟨y, hy, rfl⟩ := hc
    obtain ⟨rfl, rfl⟩ := Prod.mk.inj (Option.some.inj hs)
    exact .still fun {L σs w ρ} hI _ _ hr => by
      have := ZtT (P := P) hI hy (hr x (by simp [hop, Op.operands])) σ.length
      simpa only [execOp, hop] using this
  case assign x =>
    simp only [Option.map_eq_some_iff] at hc
    obtain ⟨y, hy, rfl⟩ := hc
    obtain ⟨rfl, rfl⟩ := Prod.mk.inj (Option.some.inj hs)
    exact .still fun {L σs w ρ} hI _ _ hr => by
      have := ZtT (P := P) hI hy (hr x (by simp [hop, Op.operands])) σ.length
      simpa only [execOp, hop] using this
  case pick c x y =>
    split at hc
    case h_2 => simp at hc
    rename_i oc ox oy h1 h2 h3
    obtain rfl := Option.some.inj hc
    simp only [Zc] at hs
    split at hs
    case h_2 => simp at hs
    rename_i t ht
    obtain ⟨rfl, rfl⟩ := Prod.mk.inj (Option.some.inj hs)
    refine .still fun {L σs w ρ} hI _ _ hr => ?_
    have hcr := hr c (by simp [hop, Op.operands]) oc h1
    rw [ht] at hcr
    have hcv : ρ c = .bool t := by generalize ρ c = q at hcr; cases hcr; rfl
    refine .still (cv := if t then ρ x else ρ y) hI ?_ ?_ (Zd _)
    · simp only [execOp, hop, hcv, asBool]; cases t <;> rfl
    · cases t
      · exact hr y (by simp [hop, Op.operands]) oy h3
      · exact hr x (by simp [hop, Op.operands]) ox h2
  case alloc t =>
    simp only [Option.map_eq_some_iff] at hc
    obtain ⟨z, hz, rfl⟩ := hc
    obtain ⟨rfl, rfl⟩ := Prod.mk.inj (Option.some.inj hs)
    exact .one fun {L σs w ρ} hI hun hn hr => by
      have := ZpR (P := P) hI hz hun hn
      simpa only [execOp, hop] using this
  case box t x =>
    split at hc
    case h_2 => simp at hc
    rename_i n y h1 h2
    obtain rfl := Option.some.inj hc
    simp only [Zc] at hs
    split at hs
    case isFalse => simp at hs
    rename_i hf
    obtain ⟨rfl, rfl⟩ := Prod.mk.inj (Option.some.inj hs)
    exact .one fun {L σs w ρ} hI hun hn hr => by
      have := ZtU (P := P) (t := t) hI (hr x (by simp [hop, Op.operands]) y h2) hf hun hn
      simpa only [execOp, hop] using this
  case build t parts =>
    have hmem : ∀ p ∈ parts.toList, p.2 ∈ o.op.operands.toList := by
      intro p hp
      simp only [hop, Op.operands]
      simp only [List.mem_map]
      exact ⟨p, hp, rfl⟩
    split at hc
    · rename_i z fields hz hu
      split at hc
      case isFalse => simp at hc
      rename_i hall
      simp only [Option.map_eq_some_iff] at hc
      obtain ⟨ps, hps, rfl⟩ := hc
      simp only [Zc, Option.map_eq_some_iff, Prod.mk.injEq] at hs
      obtain ⟨cs, hf, rfl, rfl⟩ := hs
      exact .still fun {L σs w ρ} hI _ _ hr => by
        have := ZpT (P := P) hI hz hu hall hps (fun p hp => hr p.2 (hmem p hp)) hf σ.length
        simpa only [execOp, hop] using this
    · rename_i z n el hz hu
      split at hc
      case h_2 => simp at hc
      rename_i k hk
      simp only [Option.map_eq_some_iff] at hc
      obtain ⟨ps, hps, rfl⟩ := hc
      simp only [Zc, Option.map_eq_some_iff, Prod.mk.injEq] at hs
      obtain ⟨cs, hf, rfl, rfl⟩ := hs
      exact .still fun {L σs w ρ} hI _ _ hr => by
        have := Zox (P := P) hI hz hu hk hps (fun p hp => hr p.2 (hmem p hp)) hf σ.length
        simpa only [execOp, hop] using this
    · simp at hc
  case buildSlice t len parts =>
    have hmem : ∀ p ∈ parts.toList, p.2 ∈ o.op.operands.toList := by
      intro p hp
      simp only [hop, Op.operands]
      simp only [List.mem_map]
      exact ⟨p, hp, rfl⟩
    split at hc
    case h_2 => simp at hc
    rename_i el hu
    split at hc
    case h_2 => simp at hc
    rename_i k z hk hz
    split at hc
    case isFalse => simp at hc
    rename_i hb
    simp only [Option.map_eq_some_iff] at hc
    obtain ⟨ps, hps, rfl⟩ := hc
    simp only [Zc, Option.map_eq_some_iff, Prod.mk.injEq] at hs
    obtain ⟨cs, hf, rfl, rfl⟩ := hs
    exact .one fun {L σs w ρ} hI hun hn hr => by
      have := Zoy (P := P) hI hu hk hz hb.1 hb.2.1 hb.2.2 hps (fun p hp => hr p.2 (hmem p hp)) hf hun hn
      simpa only [execOp, hop] using this
  case load t x =>
    split at hc
    case h_2 => simp at hc
    rename_i ag n y h1 h2 h3
    obtain rfl := Option.some.inj hc
    obtain rfl := ZB rfl rfl hs
    exact .still fun {L σs w ρ} hI hσ _ hr => by
      have := (Zrt (P := P) hI h1 h2 (hr x (by simp [hop, Op.operands]) y h3) hσ rfl hs).2
      simpa only [execOp, hop] using this
  case store t x y =>
    split at hc
    case h_2 => simp at hc
    obtain rfl := Option.some.inj hc
    simp [AOp.isQ] at hq
  case nilCheck x =>
    simp only [Option.map_eq_some_iff] at hc
    obtain ⟨y, hy, rfl⟩ := hc
    obtain rfl := ZB rfl rfl hs
    exact .still fun {L σs w ρ} hI hσ _ hr => by
      have hr1 := hr x (by simp [hop, Op.operands]) y hy
      obtain ⟨rfl, h⟩ := ZpM hr1 rfl hs
      refine Zaw.still (cv := ρ x) hI ?_ hr1 (Zd _)
      simp only [execOp, hop]
      rcases h with ⟨a, h⟩ | ⟨f, a, b, h⟩ <;> rw [h] <;> rfl
  case binOp op t x y yt =>
    cases op
    case eql => exact ZqN (.inl ⟨rfl, rfl⟩) hc hop hs
    case neq => exact ZqN (.inr ⟨rfl, rfl⟩) hc hop hs
    all_goals
      simp only at hc
      split at hc
      case h_2 => simp at hc
      rename_i ax ay hx hy
      obtain rfl := Option.some.inj hc
      simp only [Zc, Option.map_eq_some_iff, Prod.mk.injEq] at hs
      obtain ⟨u, hb, rfl, rfl⟩ := hs
      exact .still fun {L σs w ρ} hI _ _ hr => by
        obtain ⟨cv, h1, h2⟩ := Zel (P := P) (w := w) (t := t) (hr x (by simp [hop, Op.operands]) ax hx) (hr y (by simp [hop, Op.operands]) ay hy) hb
        simp only [execOp, hop]
        refine Zaw.still hI (Zv (cv := cv) ?_) h2 (Zd _)
        rw [Sem.run_bind, h1.symm]
        rfl
  case unOp op t x =>
    simp only [Option.map_eq_some_iff] at hc
    obtain ⟨y, hy, rfl⟩ := hc
    simp only [Zc, Option.map_eq_some_iff, Prod.mk.injEq] at hs
    obtain ⟨u, hb, rfl, rfl⟩ := hs
    exact .still fun {L σs w ρ} hI _ _ hr => by
      obtain ⟨cv, h1, h2⟩ := Zma (P := P) (w := w) (hr x (by simp [hop, Op.operands]) y hy) hb
      simp only [execOp, hop]
      exact .still hI (Zv h1) h2 (Zd _)
  case convert src dst x =>
    split at hc
    · rename_i k1 k y h1 h2 h3
      obtain rfl := Option.some.inj hc
      simp only [Zc] at hs
      split at hs
      case h_2 => simp at hs
      rename_i q n hx
      obtain ⟨rfl, rfl⟩ := Prod.mk.inj (Option.some.inj hs)
      exact .still fun {L σs w ρ} hI _ _ hr => by
        have hr1 := hr x (by simp [hop, Op.operands]) y h3
        rw [hx] at hr1
        have hv : ρ x = .int q n := by generalize ρ x = qq at hr1; cases hr1; rfl
        simp only [execOp, hop, hv]
        refine Zaw.still hI (Zv (cv := .int k (k.wrap n)) ?_) .int (Zd _)
        simp only [convert, Sem.run_bind, run_underlying h1, run_underlying h2, Result.andThen_ok]
        rfl
    · rename_i y h1 h2 h3
      obtain rfl := Option.some.inj hc
      simp only [Zc] at hs
      split at hs
      case h_2 => simp at hs
      rename_i sv hx
      obtain ⟨rfl, rfl⟩ := Prod.mk.inj (Option.some.inj hs)
      exact .still fun {L σs w ρ} hI _ _ hr => by
        have hr1 := hr x (by simp [hop, Op.operands]) y h3
        rw [hx] at hr1
        have hv : ρ x = .string sv := by generalize ρ x = qq at hr1; cases hr1; rfl
        simp only [execOp, hop, hv]
        refine Zaw.still hI (Zv (cv := .string sv) ?_) .str (Zd _)
        simp only [convert, Sem.run_bind, run_underlying h1, run_underlying h2, Result.andThen_ok]
        rfl
    · simp at hc
  case sliceToArrayPointer t x =>
    split at hc
    case h_2 => simp at hc
    rename_i n el y hu hy
    simp only [Option.map_eq_some_iff] at hc
    obtain ⟨k, hk, rfl⟩ := hc
    obtain rfl := ZB rfl rfl hs
    exact .still fun {L σs w ρ} hI hσ _ hr => by
      have := (Zrm (P := P) hI hu (hr x (by simp [hop, Op.operands]) y hy) hσ rfl hs).2
      simpa only [execOp, hop] using this
  case makeInterface t x =>
    split at hc
    · simp at hc
    · rename_i d y hnd hu hy
      obtain rfl := Option.some.inj hc
      simp only [Zc] at hs
      split at hs
      case isTrue => simp at hs
      rename_i hne
      obtain ⟨rfl, rfl⟩ := Prod.mk.inj (Option.some.inj hs)
      exact .still fun {L σs w ρ} hI _ _ hr => by
        have := Zrr (P := P) hI hu (fun m hm => hnd m hm) (hr x (by simp [hop, Op.operands]) y hy) (by rintro e; rw [e] at hne; simp [AVal.isUnd] at hne) σ.length
        simpa only [execOp, hop] using this
    · simp at hc
  case makeFunc f first captured =>
    split at hc
    case h_2 => simp at hc
    rename_i fs cs hf hcp
    split at hc
    case isFalse => simp at hc
    rename_i hfy
    obtain rfl := Option.some.inj hc
    obtain ⟨rfl, rfl⟩ := Prod.mk.inj (Option.some.inj hs)
    exact .still fun {L σs w ρ} hI _ _ hr => by
      have := Zrs (P := P) (f := f) hI hfy hf hcp (fun x hx => hr x (by simp only [hop, Op.operands, Array.toList_append, List.mem_append]; exact .inl hx))
        (fun x hx => hr x (by simp only [hop, Op.operands, Array.toList_append, List.mem_append]; exact .inr hx)) σ.length
      simpa only [execOp, hop] using this
  case makeMap t r =>
    cases r with
    | some _ => simp at hc
    | none =>
      obtain rfl := Option.some.inj hc
      obtain ⟨rfl, rfl⟩ := Prod.mk.inj (Option.some.inj hs)
      exact .one fun {L σs w ρ} hI hun hn hr => by
        have := ZpL (P := P) (t := t) hI hun hn
        simpa only [execOp, hop, Option.map_none] using this
  case makeSlice t l c =>
    split at hc
    case h_2 => simp at hc
    rename_i el hu
    split at hc
    case h_2 => simp at hc
    rename_i i z ol oc hi hz hl hcc
    split at hc
    case isFalse => simp at hc
    rename_i hzl
    obtain rfl := Option.some.inj hc
    -- the object that is made
    have hob : ∃ ob, σ' = σ ++ [ob] := by
      simp only [Zc] at hs
      split at hs
      · split at hs
        · exact ⟨_, (Prod.mk.inj (Option.some.inj hs)).2.symm⟩
        · simp at hs
      · simp at hs
    obtain ⟨ob, rfl⟩ := hob
    exact .one fun {L σs w ρ} hI hun hn hr => by
      obtain ⟨ob', e1, e2⟩ := Zl9 (P := P) hI hu hi hz hzl (hr l (by simp [hop, Op.operands]) ol hl) (hr c (by simp [hop, Op.operands]) oc hcc) rfl rfl hs
      have : ob = ob' := by simpa using List.append_cancel_left e1
      subst this
      have := e2 hun hn
      simpa only [execOp, hop] using this
  case slice t x lo hi mx =>
    have m1 : x ∈ o.op.operands.toList := by simp [hop, Op.operands]
    have m2 : ∀ y ∈ lo, y ∈ o.op.operands.toList := by intro y hy; simp [hop, Op.operands]; simp_all
    have m3 : ∀ y ∈ hi, y ∈ o.op.operands.toList := by intro y hy; simp [hop, Op.operands]; simp_all
    have m4 : ∀ y ∈ mx, y ∈ o.op.operands.toList := by intro y hy; simp [hop, Op.operands]; simp_all
    split at hc
    · rename_i ox olo ohi h1 h2 h3 h4 h5
      obtain rfl := Option.some.inj hc
      obtain rfl := ZB rfl rfl hs
      have hmx : mx = none := (ZcP h5).2 rfl
      exact .still fun {L σs w ρ} hI hσ _ hr => by
        have := (ZpO (P := P) hI h1 (hr x m1 ox h2) rfl h3 h4 (fun y hy => hr y (m2 y hy)) (fun y hy => hr y (m3 y hy)) hs).2
        simpa only [execOp, hop, hmx, Option.map_none] using this
    · rename_i el ox olo ohi omx h1 h2 h3 h4 h5
      split at hc
      · simp at hc
      rename_i hmh
      simp only [Option.map_eq_some_iff] at hc
      obtain ⟨k, hk, rfl⟩ := hc
      obtain rfl := ZB rfl rfl hs
      exact .still fun {L σs w ρ} hI hσ _ hr => by
        have := (ZpN (P := P) hI h1 hk (hr x m1 ox h2) hσ rfl h3 h4 h5 (by cases omx <;> cases ohi <;> simp_all) (fun y hy => hr y (m2 y hy)) (fun y hy => hr y (m3 y hy)) (fun y hy => hr y (m4 y hy)) hs).2
        simpa only [execOp, hop] using this
    · rename_i n el ox olo ohi h1 h2 h3 h4 h5
      simp only [Option.map_eq_some_iff] at hc
      obtain ⟨k, hk, rfl⟩ := hc
      obtain rfl := ZB rfl rfl hs
      have hmx : mx = none := (ZcP h5).2 rfl
      exact .still fun {L σs w ρ} hI hσ _ hr => by
        have := (ZpP (P := P) hI h1 hk (hr x m1 ox h2) hσ rfl h3 h4 (fun y hy => hr y (m2 y hy)) (fun y hy => hr y (m3 y hy)) hs).2
        simpa only [execOp, hop, hmx, Option.map_none] using this
    · simp at hc
  case fieldAddr t x f =>
    split at hc
    case h_2 => simp at hc
    rename_i fields y hu hy
    split at hc
    case h_2 => simp at hc
    rename_i fd hfd
    split at hc
    case h_2 => simp at hc
    rename_i n hn
    split at hc
    · simp at hc
    rename_i hn0
    obtain rfl := Option.some.inj hc
    obtain rfl := ZB rfl rfl hs
    exact .still fun {L σs w ρ} hI hσ _ hr => by
      have := (ZpQ (P := P) hI hu hfd hn hn0 (hr x (by simp [hop, Op.operands]) y hy) rfl hs).2
      simpa only [execOp, hop] using this
  case field t x f =>
    split at hc
    case h_2 => simp at hc
    rename_i fields y hu hy
    split at hc
    case h_2 => simp at hc
    rename_i fd hfd
    split at hc
    case h_2 => simp at hc
    rename_i n ag hn hag
    split at hc
    · simp at hc
    obtain rfl := Option.some.inj hc
    obtain rfl := ZB rfl rfl hs
    exact .still fun {L σs w ρ} hI hσ _ hr => by
      have := (ZpJ (P := P) hI hu hfd hn hag (hr x (by simp [hop, Op.operands]) y hy) rfl hs).2
      simpa only [execOp, hop] using this
  case indexAddr t x i =>
    split at hc
    · rename_i el ox oi hu hx hi
      simp only [Option.map_eq_some_iff] at hc
      obtain ⟨k, hk, rfl⟩ := hc
      obtain rfl := ZB rfl rfl hs
      exact .still fun {L σs w ρ} hI hσ _ hr => by
        have := (ZpK (P := P) hI hu hk (hr x (by simp [hop, Op.operands]) ox hx) (hr i (by simp [hop, Op.operands]) oi hi) hσ rfl rfl hs).2
        simpa only [execOp, hop] using this
    · rename_i n el ox oi hu hx hi
      simp only [Option.map_eq_some_iff] at hc
      obtain ⟨k, hk, rfl⟩ := hc
      obtain rfl := ZB rfl rfl hs
      exact .still fun {L σs w ρ} hI hσ _ hr => by
        have := (Zov (P := P) hI hu hk (hr x (by simp [hop, Op.operands]) ox hx) (hr i (by simp [hop, Op.operands]) oi hi) rfl rfl hs).2
        simpa only [execOp, hop] using this
    · simp at hc
  case index t x i =>
    split at hc
    · rename_i n el ox oi hu hx hi
      split at hc
      case h_2 => simp at hc
      rename_i k ag hk hag
      split at hc
      · simp at hc
      obtain rfl := Option.some.inj hc
      obtain rfl := ZB rfl rfl hs
      exact .still fun {L σs w ρ} hI hσ _ hr => by
        have := (Zro (P := P) hI hu hk hag (hr x (by simp [hop, Op.operands]) ox hx) (hr i (by simp [hop, Op.operands]) oi hi) rfl rfl hs).2
        simpa only [execOp, hop] using this
    · rename_i ox oi hu hx hi
      obtain rfl := Option.some.inj hc
      obtain rfl := ZB rfl rfl hs
      exact .still fun {L σs w ρ} hI hσ _ hr => by
        have := (Zrp (P := P) hI hu (hr x (by simp [hop, Op.operands]) ox hx) (hr i (by simp [hop, Op.operands]) oi hi) rfl rfl hs).2
        simpa only [execOp, hop] using this
    · simp at hc
  case lookup t m i ok =>
    split at hc
    case h_2 => simp at hc
    rename_i kt el om oi hu hm hi
    split at hc
    case h_2 => simp at hc
    rename_i sh z hsh hz
    obtain rfl := Option.some.inj hc
    obtain rfl := ZB rfl rfl hs
    exact .still fun {L σs w ρ} hI hσ _ hr => by
      have := (Zoo (P := P) hI hu hsh hz (hr m (by simp [hop, Op.operands]) om hm) (hr i (by simp [hop, Op.operands]) oi hi) hσ rfl rfl hs).2
      simpa only [execOp, hop] using this
  case mapEntry t m k =>
    split at hc
    case h_2 => simp at hc
    split at hc
    case h_2 => simp at hc
    obtain rfl := Option.some.inj hc
    simp [AOp.isQ] at hq
  case entryStore t m k x =>
    split at hc
    case h_2 => simp at hc
    obtain rfl := Option.some.inj hc
    simp [AOp.isQ] at hq
  case mapUpdate t m k x =>
    split at hc
    case h_2 => simp at hc
    simp only [Option.map_eq_some_iff] at hc
    obtain ⟨_, _, rfl⟩ := hc
    simp [AOp.isQ] at hq
  case insert t m k x =>
    split at hc
    case h_2 => simp at hc
    simp only [Option.map_eq_some_iff] at hc
    obtain ⟨_, _, rfl⟩ := hc
    simp [AOp.isQ] at hq
  case extract t i =>
    simp only [Option.map_eq_some_iff] at hc
    obtain ⟨y, hy, rfl⟩ := hc
    obtain rfl := ZB rfl rfl hs
    exact .still fun {L σs w ρ} hI hσ _ hr => by
      have := (Zrq (P := P) hI (hr t (by simp [hop, Op.operands]) y hy) rfl hs).2
      simpa only [execOp, hop] using this
  case call c =>
    have hmem : ∀ x ∈ c.args.toList, x ∈ o.op.operands.toList := by
      intro x hx
      simp only [hop, Op.operands, Call.operands, Array.toList_append, List.mem_append]
      exact .inr hx
    split at hc
    · rename_i args b hargs hb
      have hexec : ∀ (ρ : Operand → Value), execOp ρ o = builtin b c.argTypes o.type (c.args.map fun | .const _ => true | _ => false) (c.args.map ρ) := by
        intro ρ
        simp only [execOp, hop, resolve, hb]
        rfl
      unfold ZcT at hc
      split at hc
      · -- len
        rename_i x
        obtain ⟨ax, hax, hx⟩ := Zkv hargs
        have key : ∀ {kd : LenK} {t0 : TypeId} {d : TypeDesc}, c.argTypes[0]? = some t0 → P.underlying t0 = some d → (match kd with | .str => d = .string | .sl => ∃ e, d = .slice e | .mp => ∃ k e, d = .map k e) →
            a = .len kd x → Zgq F P o e σ v σ' := by
          intro kd t0 d ht hu hd ha
          subst ha
          obtain rfl := ZB rfl rfl hs
          exact .still fun {L σs w ρ} hI hσ _ hr => by
            have := (ZtR (P := P) (ty := o.type) hI ht hu hd (hr ax (hmem ax (by simp [hax])) x hx) hσ rfl hs).2
            rw [hexec, hax]
            simpa only [builtin, List.map_toArray, List.map_cons, List.map_nil] using this
        split at hc
        · rename_i heq
          simp only [Option.bind_eq_some_iff] at heq
          obtain ⟨t0, ht, hu⟩ := heq
          exact key ht hu (kd := .str) rfl (Option.some.inj hc).symm
        · rename_i heq
          simp only [Option.bind_eq_some_iff] at heq
          obtain ⟨t0, ht, hu⟩ := heq
          exact key ht hu (kd := .sl) ⟨_, rfl⟩ (Option.some.inj hc).symm
        · rename_i heq
          simp only [Option.bind_eq_some_iff] at heq
          obtain ⟨t0, ht, hu⟩ := heq
          exact key ht hu (kd := .mp) ⟨_, _, rfl⟩ (Option.some.inj hc).symm
        · simp at hc
      · -- cap
        rename_i x
        obtain ⟨ax, hax, hx⟩ := Zkv hargs
        split at hc
        case h_2 => simp at hc
        rename_i heq
        simp only [Option.bind_eq_some_iff] at heq
        obtain ⟨t0, ht, hu⟩ := heq
        obtain rfl := Option.some.inj hc
        obtain rfl := ZB rfl rfl hs
        exact .still fun {L σs w ρ} hI hσ _ hr => by
          have := (ZtS (P := P) (ty := o.type) hI ht hu (hr ax (hmem ax (by simp [hax])) x hx) rfl hs).2
          rw [hexec, hax]
          simpa only [builtin, List.map_toArray, List.map_cons, List.map_nil] using this
      · -- append
        split at hc
        · split at hc
          · split at hc
            · obtain rfl := Option.some.inj hc; simp [AOp.isQ] at hq
            · simp at hc
          · simp at hc
        · split at hc
          · split at hc
            · obtain rfl := Option.some.inj hc; simp [AOp.isQ] at hq
            · simp at hc
          · simp at hc
        · simp at hc
      · split at hc
        · simp only [Option.map_eq_some_iff] at hc; obtain ⟨_, _, rfl⟩ := hc; simp [AOp.isQ] at hq
        · simp at hc
      · split at hc
        · simp only [Option.map_eq_some_iff] at hc; obtain ⟨_, _, rfl⟩ := hc; simp [AOp.isQ] at hq
        · simp at hc
      · split at hc
        · simp only [Option.map_eq_some_iff] at hc; obtain ⟨_, _, rfl⟩ := hc; simp [AOp.isQ] at hq
        · simp at hc
      · obtain rfl := Option.some.inj hc
        obtain rfl := ZB rfl rfl hs
        exact .still fun {L σs w ρ} hI hσ _ hr => by
          have := (Zjj (P := P) (isMax := false) (ts := c.argTypes) (ty := o.type) hI hargs (fun x hx => hr x (hmem x hx)) hs).2
          rw [hexec]
          simpa only [builtin, Bool.false_eq_true, if_false] using this
      · obtain rfl := Option.some.inj hc
        obtain rfl := ZB rfl rfl hs
        exact .still fun {L σs w ρ} hI hσ _ hr => by
          have := (Zjj (P := P) (isMax := true) (ts := c.argTypes) (ty := o.type) hI hargs (fun x hx => hr x (hmem x hx)) hs).2
          rw [hexec]
          simpa only [builtin, if_true] using this
      · simp at hc
    · split at hc
      · obtain rfl := Option.some.inj hc; simp [AOp.isQ] at hq
      · simp at hc
    · simp only [Option.map_eq_some_iff] at hc; obtain ⟨_, _, rfl⟩ := hc; simp [AOp.isQ] at hq
    · simp at hc

end
end Go.Abs
/- The operations together: those that write. -/
namespace Go.Abs
open Go
variable [Inhabited Glob] [Lps]
section
variable {P : Program} {F : Frz} {L : Lay} {σ : Sto} {w : World}

theorem Inv.unFresh (hI : Inv F L σ w) {i : Nat} (h : σ.length ≤ i) : L i = .un := by
 cases hL : L i with
 | un => rfl
 | dead => have := hI.lt i (by rw [hL]; simp); omega
 | live _ _ => have := hI.lt i (by rw [hL]; simp); omega

section apz
variable {ts : Array TypeId} {t0 t1 ty el : TypeId} {i : TypeInfo} {q : IntKind} {n : Int}
theorem ZfZ (h0 : ts[0]? = some t0) (h1 : ts[1]? = some t1) (hu0 : P.underlying t0 = some (.slice el)) (hu1 : P.underlying t1 = some (.int q)) (hi : P.info? el = some i) (hb : 0 < i.bytes) (hn0 : 0 ≤ n) (hby : n.toNat * i.bytes ≤ Zm)
  {zv : Value} (hzv : ∀ w' : World, w'.heap = w.heap → n.toNat ≠ 0 → i.size ≠ 0 → (zeroValue el).run P w = .ok zv w) {a : Option Addr} {len cap : Nat} (hfit : len + n.toNat ≤ cap) {w' : World}
  (hst : match a with | some ad => (storeCells (ad.add (len * i.size)) (Builtin.zeroCells zv.cells n.toNat).toList).run P w = .ok () w' | none => w' = w) (hk : 0 < i.size) :
  (Builtin.append_ ts ty #[.slice a len cap, .int .i64 n]).run P w = .ok (.slice a (len + n.toNat) cap) w' := by
 have h3 : Zm = 140737488355328 := rfl
 have hmax : IntKind.i64.max = 9223372036854775807 := rfl
 have hnle : n.toNat ≤ Zm := Nat.le_trans (Nat.le_mul_of_pos_right _ hb) hby
 have hwr : IntKind.i64.wrap n = n := Zch hn0 (by rw [hmax]; omega)
 have hsz : Z1 P el = some i.size := by simp [Z1, hi]
 have hpan : ¬ (n * (i.bytes : Int) > 2 ^ 48) := by
  have e1 : (n.toNat : Int) = n := Int.toNat_of_nonneg hn0
  have h4 : ((n.toNat * i.bytes : Nat) : Int) ≤ ((Zm : Nat) : Int) := by exact_mod_cast hby
  rw [Int.natCast_mul, e1, h3] at h4
  omega
 simp only [Builtin.append_, h0, List.getElem?_toArray, List.getElem?_cons_zero, List.getElem?_cons_succ, Sem.run_bind, h1, run_underlying hu0, run_underlying hu1, Result.andThen_ok, Zx hsz, Sem.run_pure,
  if_true, asInt, asIntOf, hwr]
 rw [if_neg (by omega)]
 simp only [Sem.run_bind, Z6 hi, Result.andThen_ok]
 rw [if_neg hpan]
 simp only [Sem.run_pure, Sem.run_bind, Result.andThen_ok]
 rw [if_pos hfit]
 by_cases hm : n.toNat = 0
 ·have hz0 : (Builtin.zeroCells zv.cells n.toNat).toList = [] := by rw [hm]; simp [Builtin.zeroCells]
  rw [hz0] at hst
  rw [if_neg (by simp), if_pos (by rw [hm, Nat.zero_mul])]
  simp only [Sem.run_pure, Sem.run_bind, Result.andThen_ok]
  cases a with
  | none => simp only at hst; subst hst; simp
  | some ad => simp only at hst ⊢; simp [hst]
 ·have hne : ¬ (n.toNat * i.size = 0) := by
   intro h
   rcases Nat.mul_eq_zero.1 h with h | h <;> omega
  have hzz := hzv w rfl hm (by omega)
  rw [if_neg (by simp), if_neg hne]
  simp only [Sem.run_pure, Sem.run_bind, hzz, Result.andThen_ok]
  cases a with
  | none => simp only at hst; subst hst; simp
  | some ad => simp only at hst ⊢; simp [hst]
theorem Zfq (h0 : ts[0]? = some t0) (h1 : ts[1]? = some t1) (hu0 : P.underlying t0 = some (.slice el)) (hu1 : P.underlying t1 = some (.int q)) (hi : P.info? el = some i) (hb : 0 < i.bytes) (hk : 0 < i.size) (hn0 : 0 ≤ n)
  {zv : Value} (hzv : (zeroValue el).run P { w with drawn := w.drawn + 1 } = .ok zv { w with drawn := w.drawn + 1 }) (hzs : zv.cells.size = i.size) {a : Option Addr} {len cap : Nat} {os : List Value} (hgrow : cap < len + n.toNat) (hbytes : (len + n.toNat) * i.bytes ≤ Zm)
  (hos : ∀ w' : World, w'.heap = w.heap → (Builtin.firstCells i.size len (.slice a len cap)).run P w' = .ok os.toArray w') :
  ∃ (w' : World) (nc : Nat) (rest : List Value), (Builtin.append_ ts ty #[.slice a len cap, .int .i64 n]).run P w = .ok (.slice (some ⟨w.heap.size, 0, none⟩) (len + n.toNat) nc) w' ∧ len + n.toNat ≤ nc ∧
   w'.heap = w.heap.push (.cells (os ++ (Builtin.zeroCells zv.cells n.toNat).toList ++ rest).toArray el (0, 0)) ∧ rest.length = (nc - (len + n.toNat)) * i.size ∧ w'.os = w.os ∧ w'.tape = w.tape ∧ w'.output = w.output := by
 have h3 : Zm = 140737488355328 := rfl
 have hmax : IntKind.i64.max = 9223372036854775807 := rfl
 have hby : n.toNat * i.bytes ≤ Zm := Nat.le_trans (Nat.mul_le_mul_right _ (by omega)) hbytes
 have hnle : n.toNat ≤ Zm := Nat.le_trans (Nat.le_mul_of_pos_right _ hb) hby
 have hneed : len + n.toNat ≤ Zm := Nat.le_trans (Nat.le_mul_of_pos_right _ hb) hbytes
 have hwr : IntKind.i64.wrap n = n := Zch hn0 (by rw [hmax]; omega)
 have hsz : Z1 P el = some i.size := by simp [Z1, hi]
 have hpan : ¬ (n * (i.bytes : Int) > 2 ^ 48) := by
  have e1 : (n.toNat : Int) = n := Int.toNat_of_nonneg hn0
  have h4 : ((n.toNat * i.bytes : Nat) : Int) ≤ ((Zm : Nat) : Int) := by exact_mod_cast hby
  rw [Int.natCast_mul, e1, h3] at h4
  omega
 have hnb : Builtin.nextslicecap (len + n.toNat) cap * i.bytes ≤ 2 ^ 48 := by
  have h1 : Builtin.nextslicecap (len + n.toNat) cap * i.bytes ≤ 2 * (len + n.toNat) * i.bytes := Nat.mul_le_mul_right _ (Zd3 hgrow)
  have h2 : 2 * (len + n.toNat) * i.bytes = 2 * ((len + n.toNat) * i.bytes) := by rw [Nat.mul_assoc]
  omega
 let w1 : World := { w with drawn := w.drawn + 1 }
 obtain ⟨nc, hncv⟩ : ∃ nc, (Question.appendCap (len + n.toNat) cap el).cut (w.tape w.drawn (.appendCap (len + n.toNat) cap el)) = nc := ⟨_, rfl⟩
 have hnc' : len + n.toNat ≤ nc := by rw [← hncv]; simp only [Question.cut]; omega
 refine ⟨w1.alloc (.cells (os ++ (Builtin.zeroCells zv.cells n.toNat).toList ++ (Builtin.zeroCells zv.cells (nc - (len + n.toNat))).toList).toArray el), nc, (Builtin.zeroCells zv.cells (nc - (len + n.toNat))).toList, ?_, hnc', rfl, by simp [Builtin.zeroCells, hzs], rfl, rfl, rfl⟩
 simp only [Builtin.append_, h0, List.getElem?_toArray, List.getElem?_cons_zero, List.getElem?_cons_succ, Sem.run_bind, h1, run_underlying hu0, run_underlying hu1, Result.andThen_ok, Zx hsz, Sem.run_pure,
  if_true, asInt, asIntOf, hwr]
 rw [if_neg (by omega)]
 simp only [Sem.run_bind, Z6 hi, Result.andThen_ok]
 rw [if_neg hpan]
 simp only [Sem.run_pure, Sem.run_bind, Result.andThen_ok]
 rw [if_neg (by omega)]
 have hpan2 : ¬ (((len + n.toNat : Nat) : Int) > IntKind.i64.max) := by rw [hmax]; omega
 simp only [Sem.run_bind, Z6 hi, Result.andThen_ok]
 rw [if_neg (by rintro ⟨h, _⟩; exact hpan2 h)]
 simp only [Sem.run_bind, Z6 hi, Result.andThen_ok, Sem.run_pure]
 rw [if_neg (by omega)]
 have hos' := hos { w with drawn := w.drawn + 1 } rfl
 simp only [Sem.run_bind, run_choose, Question.forced, Bool.false_eq_true, if_false, Result.andThen_ok, hncv, Z6 hi, run_askRoom, hos', Bool.not_true]
 by_cases hm : n.toNat = 0
 ·have hz0 : (Builtin.zeroCells zv.cells n.toNat) = #[] := by rw [hm]; simp [Builtin.zeroCells]
  rw [if_pos (by rw [hm, Nat.zero_mul]), hz0]
  simp only [Sem.run_pure, Sem.run_bind, Result.andThen_ok, hzv, newRow, run_newObj]
  simp [World.alloc, w1]
  congr 2
  apply Array.ext'
  simp
 ·have hne : ¬ (n.toNat * i.size = 0) := by
   intro h
   rcases Nat.mul_eq_zero.1 h with h | h <;> omega
  rw [if_neg hne]
  simp only [Sem.run_pure, Sem.run_bind, Result.andThen_ok, hzv, newRow, run_newObj]
  simp [World.alloc, w1]
  congr 2
  apply Array.ext'
  simp
end apz

theorem Zl5 (hI : Inv F L σ w) {ts : Array TypeId} {t0 t1 ty el : TypeId} {i : TypeInfo} (h0 : ts[0]? = some t0) (h1 : ts[1]? = some t1) (hu0 : P.underlying t0 = some (.slice el)) {q : IntKind}
  (hu1 : P.underlying t1 = some (.int q)) (hi : P.info? el = some i) (hb : 0 < i.bytes) {z : List AVal} (hz : ZbD P el = some z) (hzl : z.length = i.size) {s x : AVal} {cs cx : Value} (hs' : VRel F L s cs)
  (hx : VRel F L x cx) {lv : List Nat} {e : Env} {os ox : Opd} (es : ev e os = s) (ex : ev e ox = x) {u : AVal} {σ' : Sto} (hs : Zc lv (.appendz i.size i.bytes z os ox) e σ = some (u, σ')) :
  ZeL F L σ σ' w (Sem.run P (do pure (Next.value (← Builtin.append_ ts ty #[cs, cx]))) w) u := by
 simp only [Zc, es, ex] at hs
 split at hs
 case h_3 => simp at hs
 case h_2 =>
  rename_i o gen off len k' n
  cases hx
  split at hs
  case h_2 => simp at hs
  rename_i nl ocs hσ
  split at hs
  case isFalse => simp at hs
  rename_i hc
  obtain ⟨hn0, hby, hk, hg, rfl, rfl, hlg, hzp⟩ := hc
  obtain ⟨rfl, rfl⟩ := Prod.mk.inj (Option.some.inj hs)
  obtain ⟨zv, g1, g2, g3⟩ := ZaJ hz w F L
  obtain ⟨zv', g1', g2', g3'⟩ := ZaJ hz { w with drawn := w.drawn + 1 } F L
  have hzs : zv.cells.size = i.size := by have := g2.1; simp at this; omega
  have hzs' : zv'.cells.size = i.size := by have := g2'.1; simp at this; omega
  have hcr : ∀ {zv : Value}, Ze F L z zv.cells.toList → Ze F L (List.replicate n.toNat z).flatten (Builtin.zeroCells zv.cells n.toNat).toList := by
   intro zv g2
   have : (Builtin.zeroCells zv.cells n.toNat).toList = (List.replicate n.toNat zv.cells.toList).flatten := ZcR zv.cells n.toNat
   rw [this]; exact g2.replicate _
  have hlen : (List.replicate n.toNat z).flatten.length = n.toNat * i.size := by simp [hzl]
  have hnby : n.toNat * i.bytes ≤ Zm := Nat.le_trans (Nat.mul_le_mul_right _ (by omega)) hby
  refine ZqO (lv := []) (i := i) (el := el) hI hs' (m := n.toNat) (new := (List.replicate n.toNat z).flatten) hlen hk (fun c hc => by
    simp only [List.mem_flatten, List.mem_replicate] at hc
    obtain ⟨l, ⟨_, rfl⟩, hc⟩ := hc
    exact g3 c hc)
   ⟨_, hcr g2, fun hfit w' hst => ZfZ h0 h1 hu0 hu1 hi hb hn0 hnby (zv := zv) (fun _ _ _ _ => g1) hfit hst hk⟩
   ⟨_, hcr g2', fun hgr hbb hos => Zfq h0 h1 hu0 hu1 hi hb hk hn0 g1' hzs' hgr hbb hos⟩ ?_
  simp only [Zir, hσ, hg]
  rw [if_pos ⟨trivial, trivial, by simp [ZbH]⟩]
  by_cases hm : n.toNat = 0
  ·rw [if_pos hm, hm]
   simp only [List.replicate_zero, List.flatten_nil, List.append_nil, Nat.add_zero, hlg]
   have : σ.set o (.cells nl ocs) = σ := by
    apply List.ext_getElem?
    intro i
    rw [List.getElem?_set]
    split
    ·rename_i hi; subst hi; rw [hσ]; simp [(List.getElem?_eq_some_iff.1 hσ).1]
    ·rfl
   rw [this]
  ·have hmk : 0 < n.toNat * i.size := Nat.mul_pos (by omega) hk
   have hadd : (len + n.toNat) * i.size = len * i.size + n.toNat * i.size := Nat.add_mul _ _ _
   rw [if_neg hm, if_neg (by omega), if_pos ⟨trivial, hby⟩, List.take_of_length_le (by omega)]
 rename_i n
 cases hs'; cases hx
 split at hs
 case isFalse => simp at hs
 rename_i hc
 obtain ⟨hn0, hby, hk⟩ := hc
 have h3 : Zm = 140737488355328 := rfl
 have hmax : IntKind.i64.max = 9223372036854775807 := rfl
 have hnle : n.toNat ≤ Zm := Nat.le_trans (Nat.le_mul_of_pos_right _ hb) hby
 have hwr : IntKind.i64.wrap n = n := Zch hn0 (by rw [hmax]; omega)
 have hsz : Z1 P el = some i.size := by simp [Z1, hi]
 have hpan : ¬ (n * (i.bytes : Int) > 2 ^ 48) := by
  have e1 : (n.toNat : Int) = n := Int.toNat_of_nonneg hn0
  have h4 : ((n.toNat * i.bytes : Nat) : Int) ≤ ((Zm : Nat) : Int) := by exact_mod_cast hby
  rw [Int.natCast_mul, e1, h3] at h4
  omega
 split at hs
 ·rename_i hn
  subst hn
  obtain ⟨rfl, rfl⟩ := Prod.mk.inj (Option.some.inj hs)
  refine ⟨w, L, .inl ⟨.slice none 0 0, Zv ?_, .nils⟩, hI, Adv.refl F L w, Ids.refl⟩
  simp only [Builtin.append_, h0, List.getElem?_toArray, List.getElem?_cons_zero, List.getElem?_cons_succ, Sem.run_bind, h1, run_underlying hu0, run_underlying hu1, Result.andThen_ok, Zx hsz, Sem.run_pure,
   if_true, asInt, asIntOf, hwr]
  rw [if_neg (by omega)]
  simp only [Sem.run_bind, Z6 hi, Result.andThen_ok]
  rw [if_neg hpan]
  simp
 ·rename_i hn
  obtain ⟨rfl, rfl⟩ := Prod.mk.inj (Option.some.inj hs)
  let w1 : World := { w with drawn := w.drawn + 1 }
  obtain ⟨nc, hncv⟩ : ∃ nc, (Question.appendCap n.toNat 0 el).cut (w.tape w.drawn (.appendCap n.toNat 0 el)) = nc := ⟨_, rfl⟩
  have hnc' : n.toNat ≤ nc := by rw [← hncv]; simp only [Question.cut]; omega
  obtain ⟨zv, g1, g2, g3⟩ := ZaJ hz w1 F L
  have hzs : zv.cells.size = i.size := by have := g2.1; simp at this; omega
  have hcr : Ze F L (List.replicate n.toNat z).flatten (Builtin.zeroCells zv.cells n.toNat).toList := by
   have : (Builtin.zeroCells zv.cells n.toNat).toList = (List.replicate n.toNat zv.cells.toList).flatten := ZcR zv.cells n.toNat
   rw [this]; exact g2.replicate _
  have hlen : (List.replicate n.toNat z).flatten.length = n.toNat * i.size := by simp [hzl]
  have hn' : n.toNat ≠ 0 := by omega
  have hI' := hI.extend (σ' := σ ++ [.cells false (List.replicate n.toNat z).flatten]) (fun i hi => List.getElem?_append_left hi) (by simp)
  have hrun : (Builtin.append_ ts ty #[.slice none 0 0, .int .i64 n]).run P w = .ok (.slice (some ⟨w.heap.size, 0, none⟩) n.toNat nc)
    (w1.alloc (.cells ((Builtin.zeroCells zv.cells n.toNat) ++ (Builtin.zeroCells zv.cells (nc - n.toNat))) el)) := by
   simp only [Builtin.append_, h0, List.getElem?_toArray, List.getElem?_cons_zero, List.getElem?_cons_succ, Sem.run_bind, h1, run_underlying hu0, run_underlying hu1, Result.andThen_ok, Zx hsz, Sem.run_pure,
    if_true, asInt, asIntOf, hwr]
   rw [if_neg (by omega)]
   simp only [Sem.run_bind, Z6 hi, Result.andThen_ok]
   rw [if_neg hpan]
   simp only [Sem.run_pure, Sem.run_bind, Result.andThen_ok, Nat.zero_add]
   rw [if_neg (by omega)]
   simp only [Sem.run_bind, Z6 hi, Result.andThen_ok]
   rw [if_neg (by omega)]
   simp only [Sem.run_bind, Z6 hi, Result.andThen_ok]
   have hnx : ¬ (Builtin.nextslicecap n.toNat 0 * i.bytes > 2 ^ 48) := by
    have : Builtin.nextslicecap n.toNat 0 = n.toNat := by unfold Builtin.nextslicecap; rw [if_pos (by omega)]
    rw [this]; omega
   rw [if_neg hnx]
   have hne : ¬ (n.toNat * i.size = 0) := by
    intro h
    rcases Nat.mul_eq_zero.1 h with h | h <;> omega
   have g1' : (zeroValue el).run P { w with drawn := w.drawn + 1 } = .ok zv w1 := g1
   simp only [Sem.run_bind, run_choose, Question.forced, Bool.false_eq_true, if_false, Result.andThen_ok, hncv, Z6 hi, run_askRoom, Builtin.firstCells, Sem.run_pure, Bool.not_true, hne, g1', g1, newRow, run_newObj]
   simp [World.alloc, w1]
  have := ZeQ (cs := (List.replicate n.toNat z).flatten) hI' (hI.unFresh (Nat.le_refl _)) (by simp) (fun c hc => by
    simp only [List.mem_flatten, List.mem_replicate] at hc
    obtain ⟨l, ⟨_, rfl⟩, hc⟩ := hc
    exact g3 c hc) (w' := w1.alloc (.cells ((Builtin.zeroCells zv.cells n.toNat) ++ (Builtin.zeroCells zv.cells (nc - n.toNat))) el)) (elem := el)
   (c := (Builtin.zeroCells zv.cells n.toNat) ++ (Builtin.zeroCells zv.cells (nc - n.toNat))) rfl rfl rfl rfl (len := n.toNat) (cap := nc) (k := i.size) hnc'
   (by
    have e1 : (nc - n.toNat) * i.size = nc * i.size - n.toNat * i.size := Nat.sub_mul _ _ _
    have e2 : n.toNat * i.size ≤ nc * i.size := Nat.mul_le_mul_right _ hnc'
    simp only [Builtin.zeroCells, hzs, Array.size_append, Array.size_map, Array.size_range]
    omega) (by rw [hlen]; exact Nat.mul_le_mul_right _ hnc') (by omega)
   (fun p x hp => by
    have hlt := (List.getElem?_eq_some_iff.1 hp).1
    have := Zbo hcr hp
    rw [Array.getD_eq_getD_getElem?, Array.getElem?_append_left (by have := hcr.1; simp only [Array.length_toList] at this; omega), ← Array.getD_eq_getD_getElem?]
    exact this) (Zv hrun)
  rw [hlen] at this
  exact this.toW (new := [.cells false (List.replicate n.toNat z).flatten])

theorem Zku {o : Oper} {a : AOp} (hc : cOp P o = some a) (hnc : a.isCall = false) {lv : List Nat} {e : Env} {v : AVal} {σ' : Sto} (hs : Zc lv a e σ = some (v, σ')) (hI : Inv F L σ w)
  {ρ : Operand → Value} (hρ : ∀ v, ρ (.const v) = v) (hr : ∀ x ∈ o.op.operands.toList, Zaf F L e ρ x) : ZeL F L σ σ' w ((execOp ρ o).run P w) v := by
 by_cases hq : a.isQ = true
 ·obtain ⟨new, rfl, h⟩ := Zgr hc hq hs
  have hI' := hI.extend (σ' := σ ++ new) (fun i hi => List.getElem?_append_left hi) (by simp)
  exact (h hI' ⟨fun i hi => List.getElem?_append_left hi, fun i ob hob => ⟨by rw [List.getElem?_append_right (by omega), Nat.add_sub_cancel_left]; exact hob, hI.unFresh (by omega)⟩⟩ hρ hr).toW
 ·cases hop : o.op <;> simp only [cOp, hop, reduceCtorEq] at hc
  case store t x y =>
   split at hc
   case h_2 => simp at hc
   rename_i n ax ay h1 h2 h3
   obtain rfl := Option.some.inj hc
   have := ZpI (P := P) hI h1 (hr x (by simp [hop, Op.operands]) ax h2) (hr y (by simp [hop, Op.operands]) ay h3) rfl rfl hs
   simpa only [execOp, hop] using this
  case mapUpdate t m k x =>
   split at hc
   case h_2 => simp at hc
   rename_i kt el am ak ax hu hm hk hx
   simp only [Option.map_eq_some_iff] at hc
   obtain ⟨sh, hsh, rfl⟩ := hc
   have := Zle (P := P) hI hu hsh (hr m (by simp [hop, Op.operands]) am hm) (hr k (by simp [hop, Op.operands]) ak hk) (hr x (by simp [hop, Op.operands]) ax hx) rfl rfl rfl hs
   simpa only [execOp, hop] using this
  case insert t m k x =>
   split at hc
   case h_2 => simp at hc
   rename_i kt el am ak ax hu hm hk hx
   simp only [Option.map_eq_some_iff] at hc
   obtain ⟨sh, hsh, rfl⟩ := hc
   have := Zle (P := P) hI hu hsh (hr m (by simp [hop, Op.operands]) am hm) (hr k (by simp [hop, Op.operands]) ak hk) (hr x (by simp [hop, Op.operands]) ax hx) rfl rfl rfl hs
   simpa only [execOp, hop] using this
  case mapEntry t m k =>
   split at hc
   case h_2 => simp at hc
   rename_i kt el am ak hu hm hk
   split at hc
   case h_2 => simp at hc
   rename_i sh z hsh hz
   obtain rfl := Option.some.inj hc
   have := Zoq (P := P) hI hu hsh hz (hr m (by simp [hop, Op.operands]) am hm) (hr k (by simp [hop, Op.operands]) ak hk) rfl rfl hs
   simpa only [execOp, hop] using this
  case entryStore t m s x =>
   split at hc
   case h_2 => simp at hc
   rename_i am as ax hm hss hx
   obtain rfl := Option.some.inj hc
   have := ZpG (P := P) (t := t) hI (hr m (by simp [hop, Op.operands]) am hm) (hr s (by simp [hop, Op.operands]) as hss) (hr x (by simp [hop, Op.operands]) ax hx) rfl rfl rfl hs
   simpa only [execOp, hop] using this
  case call c =>
   split at hc
   ·rename_i args b hargs hb
    have hexec : ∀ (ρ : Operand → Value), execOp ρ o = builtin b c.argTypes o.type (c.args.map fun | .const _ => true | _ => false) (c.args.map ρ) := by
     intro ρ
     simp only [execOp, hop, resolve, hb]
     rfl
    unfold ZcT at hc
    split at hc
    ·split at hc <;> first | (obtain rfl := Option.some.inj hc; exact absurd rfl hq) | simp at hc
    ·split at hc <;> first | (obtain rfl := Option.some.inj hc; exact absurd rfl hq) | simp at hc
    ·rename_i s x
     obtain ⟨as, ax, hax, h1, h2⟩ := Zkw hargs
     split at hc
     ·rename_i el d1 heq0 heq1
      simp only [Option.bind_eq_some_iff] at heq0 heq1
      obtain ⟨t0, ht0, hu0⟩ := heq0
      obtain ⟨t1, ht1, hu1⟩ := heq1
      split at hc
      case h_2 => simp at hc
      rename_i i z hi hz
      split at hc
      case isFalse => simp at hc
      rename_i hbz
      obtain rfl := Option.some.inj hc
      have := Zou (P := P) (ty := o.type) hI ht0 ht1 hu0 hu1 (fun k => by simp) hi hbz.2 hz hbz.1 (hr as (by simp [hop, Op.operands, Call.operands, hb, hax]) s h1) (hr ax (by simp [hop, Op.operands, Call.operands, hb, hax]) x h2) rfl rfl hs
      rw [hexec, hax]
      simpa only [builtin, List.map_toArray, List.map_cons, List.map_nil] using this
     ·rename_i el q heq0 heq1
      simp only [Option.bind_eq_some_iff] at heq0 heq1
      obtain ⟨t0, ht0, hu0⟩ := heq0
      obtain ⟨t1, ht1, hu1⟩ := heq1
      split at hc
      case h_2 => simp at hc
      rename_i i z hi hz
      split at hc
      case isFalse => simp at hc
      rename_i hbz
      obtain rfl := Option.some.inj hc
      have := Zl5 (P := P) (ty := o.type) hI ht0 ht1 hu0 hu1 hi hbz.2 hz hbz.1 (hr as (by simp [hop, Op.operands, Call.operands, hb, hax]) s h1) (hr ax (by simp [hop, Op.operands, Call.operands, hb, hax]) x h2) rfl rfl hs
      rw [hexec, hax]
      simpa only [builtin, List.map_toArray, List.map_cons, List.map_nil] using this
     ·simp at hc
    ·rename_i d s
     obtain ⟨ad, as, hax, h1, h2⟩ := Zkw hargs
     split at hc
     case h_2 => simp at hc
     rename_i heq
     simp only [Option.bind_eq_some_iff] at heq
     obtain ⟨t0, ht, hu⟩ := heq
     simp only [Option.map_eq_some_iff] at hc
     obtain ⟨k, hk, rfl⟩ := hc
     have := Zrn (P := P) (ty := o.type) hI ht hu hk (hr ad (by simp [hop, Op.operands, Call.operands, hb, hax]) d h1) (hr as (by simp [hop, Op.operands, Call.operands, hb, hax]) s h2) rfl rfl hs
     rw [hexec, hax]
     simpa only [builtin, List.map_toArray, List.map_cons, List.map_nil] using this
    ·rename_i x
     obtain ⟨ax, hax, h1⟩ := Zkv hargs
     split at hc
     case h_2 => simp at hc
     rename_i heq
     simp only [Option.bind_eq_some_iff] at heq
     obtain ⟨t0, ht, hu⟩ := heq
     simp only [Option.map_eq_some_iff] at hc
     obtain ⟨z, hz, rfl⟩ := hc
     have := ZpH (P := P) (ty := o.type) hI ht hu hz (hr ax (by simp [hop, Op.operands, Call.operands, hb, hax]) x h1) rfl hs
     rw [hexec, hax]
     simpa only [builtin, List.map_toArray, List.map_cons, List.map_nil] using this
    ·rename_i m k
     obtain ⟨am, ak, hax, h1, h2⟩ := Zkw hargs
     split at hc
     case h_2 => simp at hc
     rename_i heq
     simp only [Option.bind_eq_some_iff] at heq
     obtain ⟨t0, ht, hu⟩ := heq
     simp only [Option.map_eq_some_iff] at hc
     obtain ⟨sh, hsh, rfl⟩ := hc
     have := Zor (P := P) (ty := o.type) hI ht hu hsh (hr am (by simp [hop, Op.operands, Call.operands, hb, hax]) m h1) (hr ak (by simp [hop, Op.operands, Call.operands, hb, hax]) k h2) rfl rfl hs
     rw [hexec, hax]
     simpa only [builtin, List.map_toArray, List.map_cons, List.map_nil] using this
    ·obtain rfl := Option.some.inj hc; exact absurd rfl hq
    ·obtain rfl := Option.some.inj hc; exact absurd rfl hq
    ·simp at hc
   ·split at hc
    ·obtain rfl := Option.some.inj hc; simp [AOp.isCall] at hnc
    ·simp at hc
   ·simp only [Option.map_eq_some_iff] at hc; obtain ⟨_, _, rfl⟩ := hc; simp [AOp.isCall] at hnc
   ·simp at hc
  case makeMap t r =>
   cases r with
   | some _ => simp at hc
   | none => obtain rfl := Option.some.inj hc; exact absurd rfl hq
  all_goals
   exfalso
   apply hq
   try unfold cEq at hc
   repeat' split at hc
   all_goals first
    | (obtain rfl := Option.some.inj hc; rfl)
    | (simp only [Option.map_eq_some_iff] at hc; obtain ⟨_, _, rfl⟩ := hc; rfl)
    | (simp at hc; done)

end
end Go.Abs
/- What an operation stores names nothing above the levels. -/
namespace Go.Abs
open Go
variable [Inhabited Glob] [Lps]

def ZaH (lv : List Nat) (σ : Sto) : Prop := ∀ l ∈ lv, l ≤ σ.length ∧ ∀ o ob, o < l → σ[o]? = some ob → ob.under l = true

theorem Zjf {q : Nat → Bool} : ∀ (v : AVal), v.pure = true → v.names q = true := by
 intro v
 refine AVal.rec (motive_1 := fun v => v.names (fun _ => false) = true → v.names q = true) (motive_2 := fun vs => AVal.namesL (fun _ => false) vs = true → AVal.namesL q vs = true)
  ?_ ?_ ?_ ?_ ?_ ?_ ?_ ?_ ?_ ?_ ?_ ?_ ?_ ?_ ?_ ?_ ?_ ?_ ?_ ?_ ?_ ?_ ?_ v <;> intros <;> simp_all [AVal.names, AVal.namesL]
theorem ZaI {p : Nat → Bool} : ∀ {xs ys : List AVal}, AVal.namesL p (xs ++ ys) = (AVal.namesL p xs && AVal.namesL p ys)
 | [], ys => by simp [AVal.namesL]
 | x :: xs, ys => by simp [AVal.namesL, ZaI (xs := xs), Bool.and_assoc]

theorem Zr {p : Nat → Bool} : ∀ {xs : List AVal}, AVal.namesL p xs = true ↔ ∀ x ∈ xs, x.names p = true
 | [] => by simp [AVal.namesL]
 | x :: xs => by simp [AVal.namesL, Zr (xs := xs)]

theorem Za0 {p : Nat → Bool} {cs new : List AVal} {off : Nat} (h1 : AVal.namesL p cs = true) (h2 : AVal.namesL p new = true) : AVal.namesL p (Zl cs off new) = true := by
 rw [Zr] at *
 intro x hx
 simp only [Zl, List.mem_append] at hx
 rcases hx with (hx | hx) | hx
 ·exact h1 x (List.mem_of_mem_take hx)
 ·exact h2 x hx
 ·exact h1 x (List.mem_of_mem_drop hx)

theorem ZaH.append {lv : List Nat} {σ : Sto} (h : ZaH lv σ) (new : Sto) : ZaH lv (σ ++ new) := by
 intro l hl
 obtain ⟨h1, h2⟩ := h l hl
 refine ⟨by simp; omega, fun o ob ho hob => h2 o ob ho ?_⟩
 rwa [List.getElem?_append_left (by omega)] at hob

theorem ZaH.set {lv : List Nat} {σ : Sto} (h : ZaH lv σ) {o : Nat} {ob : AObj} (hob : ∀ l ∈ lv, o < l → ob.under l = true) : ZaH lv (σ.set o ob) := by
 intro l hl
 obtain ⟨h1, h2⟩ := h l hl
 refine ⟨by simp; exact h1, fun i ob' hi hob' => ?_⟩
 rw [List.getElem?_set] at hob'
 split at hob'
 ·rename_i e; subst e
  split at hob'
  ·obtain rfl := Option.some.inj hob'; exact hob l hl hi
  ·simp at hob'
 ·exact h2 i ob' hi hob'

theorem Za1 {lv : List Nat} {o : Nat} {vs : List AVal} (h : ZbH lv o vs = true) : ∀ l ∈ lv, o < l → AVal.unders l vs = true := by
 intro l hl ho
 have := List.all_eq_true.1 h l hl
 simp only [Bool.or_eq_true, decide_eq_true_eq] at this
 exact this.resolve_left (by omega)

theorem ZaH.setCells {lv : List Nat} {σ : Sto} (h : ZaH lv σ) {o : Nat} {nl nl' : Bool} {cs cs' : List AVal} (hσ : σ[o]? = some (.cells nl cs))
  (hn : ∀ l ∈ lv, o < l → AVal.unders l cs = true → AVal.unders l cs' = true) : ZaH lv (σ.set o (.cells nl' cs')) :=
 h.set fun l hl ho => hn l hl ho ((h l hl).2 o _ ho hσ)

theorem Zf7 {lv : List Nat} {a : AOp} {e : Env} {σ σ' : Sto} {v : AVal} (hs : Zc lv a e σ = some (v, σ')) (h : ZaH lv σ) : ZaH lv σ' := by
 by_cases hq : a.isQ = true
 ·by_cases hm : a.makes = true
  ·have : ∃ ob, σ' = σ ++ [ob] := by
    cases a <;> first | (simp [AOp.makes] at hm; done) | skip
    all_goals
     simp only [Zc] at hs
     first
     | exact ⟨_, (Prod.mk.inj (Option.some.inj hs)).2.symm⟩
     | (simp only [Option.map_eq_some_iff, Prod.mk.injEq] at hs; obtain ⟨_, _, _, rfl⟩ := hs; exact ⟨_, rfl⟩)
     | (repeat' split at hs)
    all_goals first
     | exact ⟨_, (Prod.mk.inj (Option.some.inj hs)).2.symm⟩
     | (simp at hs; done)
   obtain ⟨ob, rfl⟩ := this
   exact h.append _
  ·rw [ZB hq (by simpa using hm) hs]; exact h
 ·cases a <;> first | (exfalso; apply hq; rfl) | skip
  case store n oa ov =>
   simp only [Zc] at hs
   repeat' split at hs
   all_goals first | (simp at hs; done) | skip
   rename_i _ _ hσ hc
   obtain ⟨rfl, rfl⟩ := Prod.mk.inj (Option.some.inj hs)
   exact h.setCells hσ fun l hl ho hcs => Za0 hcs (Za1 hc.2.2.2 l hl ho)
  case mapup sh m k x =>
   simp only [Zc] at hs
   repeat' split at hs
   all_goals first | (simp at hs; done) | skip
   ·rename_i _ _ _ _ ks vs hσ hc _ j _ _
    obtain ⟨rfl, rfl⟩ := Prod.mk.inj (Option.some.inj hs)
    refine h.set fun l hl ho => ?_
    have h1 := (h l hl).2 _ _ ho hσ
    have h2 := Za1 hc.1 l hl ho
    simp only [AObj.under, Bool.and_eq_true] at h1 ⊢
    refine ⟨h1.1, ?_⟩
    have h12 := Zr.1 h1.2
    have h22 := Zr.1 h2
    refine Zr.2 fun y hy => ?_
    rcases List.mem_or_eq_of_mem_set hy with hy | rfl
    ·exact h12 y hy
    ·exact h22 _ (by simp)
   ·rename_i _ _ _ _ ks vs hσ hc _ _
    obtain ⟨rfl, rfl⟩ := Prod.mk.inj (Option.some.inj hs)
    refine h.set fun l hl ho => ?_
    have h1 := (h l hl).2 _ _ ho hσ
    have h2 := Za1 hc.1 l hl ho
    simp only [AObj.under, Bool.and_eq_true] at h1 ⊢
    have h2' := Zr.1 h2
    simp only [ZaI, Bool.and_eq_true]
    exact ⟨⟨h1.1, by simp [AVal.namesL, h2' (ev e k) (by simp)]⟩, ⟨h1.2, by simp [AVal.namesL, h2' (ev e x) (by simp)]⟩⟩
  case append k bytes s x =>
   simp only [Zc] at hs
   repeat' split at hs
   all_goals first
    | (simp at hs; done)
    | (obtain ⟨rfl, rfl⟩ := Prod.mk.inj (Option.some.inj hs); first | exact h | exact h.append _)
    | skip
   ·rename_i _ _ _ _ _ _ _ _ _ _ _ _ _ hσ hc _ _
    obtain ⟨rfl, rfl⟩ := Prod.mk.inj (Option.some.inj hs)
    exact h.setCells hσ fun l hl ho hcs => Za0 hcs (Za1 hc.2.2 l hl ho)
   ·rename_i _ _ _ _ _ _ _ _ _ _ _ _ _ hσ hc _ _ _
    obtain ⟨rfl, rfl⟩ := Prod.mk.inj (Option.some.inj hs)
    refine h.setCells hσ fun l hl ho hcs => ?_
    simp only [AVal.unders, ZaI, Bool.and_eq_true] at hcs ⊢
    refine ⟨?_, Za1 hc.2.2 l hl ho⟩
    rw [Zr] at *
    exact fun y hy => hcs y (List.mem_of_mem_take hy)
  case appendF k bytes s x =>
   simp only [Zc] at hs
   repeat' split at hs
   all_goals first
    | (simp at hs; done)
    | (obtain ⟨rfl, rfl⟩ := Prod.mk.inj (Option.some.inj hs); exact h.set (ob := .dead) (by intro l _ _; rfl))
  case appendz k bytes z s x =>
   simp only [Zc] at hs
   repeat' split at hs
   all_goals first
    | (simp at hs; done)
    | (obtain ⟨rfl, rfl⟩ := Prod.mk.inj (Option.some.inj hs); first | exact h | exact h.append _)
    | skip
   rename_i _ _ _ _ _ _ _ _ _ _ _ _ hσ hc
   obtain ⟨rfl, rfl⟩ := Prod.mk.inj (Option.some.inj hs)
   refine h.setCells hσ fun l hl ho hcs => ?_
   simp only [AVal.unders, ZaI, Bool.and_eq_true] at hcs ⊢
   refine ⟨hcs, ?_⟩
   have hz := hc.2.2.2.2.2.2.2
   rw [Zr] at *
   intro y hy
   simp only [List.mem_flatten, List.mem_replicate] at hy
   obtain ⟨l', ⟨_, rfl⟩, hy⟩ := hy
   exact Zjf y (hz y hy)
  case copy k d s =>
   simp only [Zc] at hs
   repeat' split at hs
   all_goals first
    | (simp at hs; done)
    | (obtain ⟨rfl, rfl⟩ := Prod.mk.inj (Option.some.inj hs); exact h)
    | skip
   rename_i _ _ _ _ _ _ _ _ _ _ _ _ _ _ hσ hc
   obtain ⟨rfl, rfl⟩ := Prod.mk.inj (Option.some.inj hs)
   refine h.setCells hσ fun l hl ho hcs => Za0 hcs ?_
   have := Za1 hc.2.2.2.2.1 l hl ho
   rw [Zr] at *
   exact fun y hy => this y (List.mem_of_mem_take hy)
  case clear z x =>
   simp only [Zc] at hs
   repeat' split at hs
   all_goals first
    | (simp at hs; done)
    | (obtain ⟨rfl, rfl⟩ := Prod.mk.inj (Option.some.inj hs); exact h)
    | skip
   rename_i _ _ _ _ _ _ _ _ _ _ hσ hc
   obtain ⟨rfl, rfl⟩ := Prod.mk.inj (Option.some.inj hs)
   refine h.setCells hσ fun l hl ho hcs => Za0 hcs ?_
   have := Za1 hc.2.2.2 l hl ho
   rw [Zr] at *
   intro y hy
   simp only [List.mem_flatten, List.mem_replicate] at hy
   obtain ⟨l', ⟨_, rfl⟩, hy⟩ := hy
   exact this y hy
  case delete sh m k =>
   simp only [Zc] at hs
   repeat' split at hs
   all_goals first
    | (simp at hs; done)
    | (obtain ⟨rfl, rfl⟩ := Prod.mk.inj (Option.some.inj hs); exact h)
  case mapent sh z m k =>
   simp only [Zc] at hs
   repeat' split at hs
   all_goals first | (simp at hs; done) | skip
   ·simp only [Option.map_eq_some_iff, Prod.mk.injEq] at hs
    obtain ⟨_, _, _, rfl⟩ := hs
    exact h
   ·rename_i _ _ _ _ ks vs hσ hc _ _
    obtain ⟨rfl, rfl⟩ := Prod.mk.inj (Option.some.inj hs)
    refine h.set fun l hl ho => ?_
    have h1 := (h l hl).2 _ _ ho hσ
    have h2 := Za1 hc.1 l hl ho
    simp only [AObj.under, Bool.and_eq_true] at h1 ⊢
    have h2' := Zr.1 h2
    simp only [ZaI, Bool.and_eq_true]
    exact ⟨⟨h1.1, by simp [AVal.namesL, h2' (ev e k) (by simp)]⟩, ⟨h1.2, by simp [AVal.namesL, h2' z (by simp)]⟩⟩
  case allocn z off m =>
   simp only [Zc] at hs
   split at hs
   ·obtain ⟨rfl, rfl⟩ := Prod.mk.inj (Option.some.inj hs); exact h.append _
   ·simp at hs
  case entst m s v =>
   simp only [Zc] at hs
   repeat' split at hs
   all_goals first | (simp at hs; done) | skip
   rename_i _ _ _ _ _ _ ks vs hσ hc
   obtain ⟨rfl, rfl⟩ := Prod.mk.inj (Option.some.inj hs)
   refine h.set fun l hl ho => ?_
   have h1 := (h l hl).2 _ _ ho hσ
   have h2 := Za1 hc.2.2 l hl ho
   simp only [AObj.under, Bool.and_eq_true] at h1 ⊢
   refine ⟨h1.1, ?_⟩
   have h12 := Zr.1 h1.2
   have h22 := Zr.1 h2
   refine Zr.2 fun y hy => ?_
   rcases List.mem_or_eq_of_mem_set hy with hy | rfl
   ·exact h12 y hy
   ·exact h22 _ (by simp)
  case call p f args => simp [Zc] at hs
  case callv p x args => simp [Zc] at hs

end Go.Abs
/- Which regions may run in any order: what is asked of their text. -/
namespace Go.Abs
open Go
variable [Inhabited Glob] [Lps]

def AOp.isReg : AOp → Bool
 | .mv _ | .pick .. | .build .. | .flist .. | .mkslF .. | .bin .. | .eqs .. | .un .. | .conv .. | .same _ | .mkif .. | .mkfn .. | .nilck _ | .faddr .. | .field .. | .iaddrA .. | .idxA .. | .idxS .. | .slstr .. | .extr .. | .minmax .. => true
 | _ => false

def AOp.isW : AOp → Bool
 | .call p _ _ => !p
 | .callv p _ _ => !p
 | a => !a.isQ

def Zfp (acc : List Nat) (l : List Nat) : Nat := l.foldl (fun m e => m ||| (acc.getD e 0 ||| 1 <<< e)) 0
def Zds (l : List AOper) : List Nat := l.foldl (fun acc o => acc ++ [Zfp acc o.after]) []
def ZaR (anc : List Nat) (i j : Nat) : Bool := if j < i then (anc.getD i 0).testBit j else (anc.getD j 0).testBit i

def AOper.looks (o : AOper) (t : Nat) : Bool := o.reads.contains t || match o.guard with
 | some (some g, _) => g == t
 | _ => false

def Zdy (anc : List Nat) (i j : Nat) (oi oj : AOper) : Bool :=
 (match oj.dst with
  | none => true
  | some t => (match oi.dst with | some t' => !(t == t') | none => true) && (!oi.looks t || ZaR anc i j)) &&
 (!oi.op.isW || oj.op.isReg || ZaR anc i j)

def Zek (aos : List AOper) : Bool :=
 let anc := Zds aos
 (List.range aos.length).all fun i => match aos[i]? with
  | none => true
  | some oi => oi.after.all (· < i) && (List.range aos.length).all fun j => i == j || match aos[j]? with
   | none => true
   | some oj => Zdy anc i j oi oj

def AOp.opds : AOp → List Opd
 | .mv x => [x]
 | .pick c a b => [c, a, b]
 | .alloc _ => []
 | .box _ x => [x]
 | .build _ ps => ps.map (·.2.2)
 | .bslice _ _ _ ps => ps.map (·.2)
 | .flist _ _ _ ps => ps.map (·.2)
 | .load _ _ x => [x]
 | .store _ a v => [a, v]
 | .nilck x => [x]
 | .bin _ x y => [x, y]
 | .eqs _ _ x y => [x, y]
 | .eqnil _ _ x => [x]
 | .eqp _ x y => [x, y]
 | .un _ x => [x]
 | .conv _ x => [x]
 | .same x => [x]
 | .mkif _ x => [x]
 | .mkfn _ a b => a ++ b
 | .mkmap => []
 | .mkslice _ _ _ l c => [l, c]
 | .slice _ x lo hi mx => x :: (lo.toList ++ hi.toList ++ mx.toList)
 | .slstr x lo hi => x :: (lo.toList ++ hi.toList)
 | .slarr _ _ x lo hi => x :: (lo.toList ++ hi.toList)
 | .faddr _ x => [x]
 | .field _ _ _ x => [x]
 | .iaddr _ x i => [x, i]
 | .iaddrA _ _ x i => [x, i]
 | .idxA _ _ _ x i => [x, i]
 | .idxS x i => [x, i]
 | .lookup _ _ _ m i => [m, i]
 | .mapup _ m k v => [m, k, v]
 | .extr x _ => [x]
 | .len _ x => [x]
 | .cap x => [x]
 | .append _ _ s x => [s, x]
 | .appendz _ _ _ s x => [s, x]
 | .appendF _ _ s x => [s, x]
 | .copy _ d s => [d, s]
 | .clear _ x => [x]
 | .delete _ m k => [m, k]
 | .minmax _ xs => xs
 | .arrp _ _ x => [x]
 | .mapent _ _ m k => [m, k]
 | .entst m s v => [m, s, v]
 | .mkslF _ _ _ l c => [l, c]
 | .allocn _ _ _ => []
 | .call _ _ args => args
 | .callv _ x args => x :: args
 | .unsup => []

def AOp.setter : AOp → Bool
 | .store .. | .mapup .. | .append .. | .appendz .. | .appendF .. | .copy .. | .clear .. | .delete .. => true
 | _ => false
def AOp.tgt : AOp → Option Opd
 | .store _ x _ | .mapup _ x _ _ | .append _ _ x _ | .appendz _ _ _ x _ | .appendF _ _ x _ | .copy _ x _ | .clear _ x | .delete _ x _ => some x
 | _ => none


def stable (aos : List AOper) (i t : Nat) : Bool := (List.range aos.length).all fun j => decide (j < i) || match aos[j]? with
 | some o => !(o.dst == some t)
 | none => true
def Opd.among (ts : List Nat) (st : Nat → Bool) : Opd → Bool
 | .tmp t => ts.contains t && st t
 | .cst v => v.pure
def AOp.isCall' : AOp → Bool
 | .call .. | .callv .. => true
 | _ => false
def AOp.makes' : AOp → Bool
 | .alloc .. | .box .. | .bslice .. | .mkmap | .mkslice .. => true
 | _ => false
def Ziq (s : SepC) (aos : List AOper) (anc : List Nat) (i j : Nat) (oi oj : AOper) : Bool :=
 !oi.op.isW || oj.op.isReg || ZaR anc i j ||
  (if oj.op.isCall' then oj.op.opds.all (Opd.among s.ps (stable aos j))
   else s.chk.any fun p => (match oi.op.tgt with | some x => x.among p.1 (stable aos i) | none => false) && oj.op.opds.all (Opd.among p.2 (stable aos j)) && (!oj.op.makes' || match oj.dst with
   | some t => p.2.contains t
   | none => false))
def Zkt (s : SepC) (aos : List AOper) (i : Nat) (oi : AOper) : Bool := !oi.op.isW || (oi.op.setter && match oi.op.tgt with
 | some (.tmp t) => s.ws.contains t && stable aos i t
 | _ => false)
def ZeK (anc : List Nat) (i j : Nat) (oi oj : AOper) : Bool := match oj.dst with
 | none => true
 | some t => (match oi.dst with | some t' => !(t == t') | none => true) && (!oi.looks t || ZaR anc i j)
def Zlc (s : SepC) (aos : List AOper) : Bool :=
 let anc := Zds aos
 (List.range aos.length).all fun i => match aos[i]? with
  | none => true
  | some oi => oi.after.all (· < i) && Zkt s aos i oi && (List.range aos.length).all fun j => i == j || match aos[j]? with
   | none => true
   | some oj => ZeK anc i j oi oj && Ziq s aos anc i j oi oj

def ZQ (c m i : Nat) : Nat := if i = m then c else if c ≤ i ∧ i < m then i + 1 else i
def Zc5 (c m : Nat) (os : List AOper) : List AOper := os.mapIdx fun i o => if i = m then { o with after := o.after ++ [c] } else o
def Zc6 (c m : Nat) (os : List AOper) : List AOper := ZaL c m (os.mapIdx fun i o => { o with after := o.after.map (ZQ c m) ++ if i = c then [c] else [] })
def Zol (c m : Nat) (os : List AOper) : Bool := decide (c < m) && decide (m < os.length) && Zek (Zc5 c m os) && Zek (Zc6 c m os)

def ACode.plan : ACode → Bool
 | .regionA c m ops => Zol c m ops
 | .regionD s ops => Zlc s ops
 | .region d ops => !d || Zek ops
 | .seq a b => a.plan && b.plan
 | .cond _ a b => a.plan && b.plan
 | .block _ b => b.plan
 | .loop b => b.plan
 | .trunc b => b.plan
 | .scope b => b.plan
 | .rangeF _ _ b => b.plan
 | _ => true

theorem Zgo {acc : List Nat} {j : Nat} : ∀ {l : List Nat} {m : Nat}, (l.foldl (fun m e => m ||| (acc.getD e 0 ||| 1 <<< e)) m).testBit j = true →
  m.testBit j = true ∨ ∃ e ∈ l, (acc.getD e 0).testBit j = true ∨ j = e
 | [], m, h => .inl h
 | e :: l, m, h => by
  simp only [List.foldl_cons] at h
  rcases Zgo h with h | ⟨e', he', h⟩
  ·simp only [Nat.testBit_or, Bool.or_eq_true] at h
   rcases h with h | h | h
   ·exact .inl h
   ·exact .inr ⟨e, by simp, .inl h⟩
   ·refine .inr ⟨e, by simp, .inr ?_⟩
    simp only [Nat.one_shiftLeft, Nat.testBit_two_pow, decide_eq_true_eq] at h
    exact h.symm
  ·exact .inr ⟨e', by simp [he'], h⟩

theorem Zjd : ∀ (l : List AOper) (acc : List Nat), ∃ r, l.foldl (fun acc o => acc ++ [Zfp acc o.after]) acc = acc ++ r ∧ r.length = l.length ∧
  ∀ i o, l[i]? = some o → r[i]? = some (Zfp (acc ++ r.take i) o.after)
 | [], acc => ⟨[], by simp, rfl, fun i o h => by simp at h⟩
 | o :: l, acc => by
  obtain ⟨r, h1, h2, h3⟩ := Zjd l (acc ++ [Zfp acc o.after])
  refine ⟨Zfp acc o.after :: r, by simp [h1], by simp [h2], fun i o' h => ?_⟩
  cases i with
  | zero => simp at h; subst h; simp
  | succ i =>
   simp at h
   have := h3 i o' h
   simp [this]

theorem Zom {aos : List AOper} {i : Nat} {o : AOper} (h : aos[i]? = some o) : (Zds aos).getD i 0 = Zfp ((Zds aos).take i) o.after := by
 obtain ⟨r, h1, h2, h3⟩ := Zjd aos []
 have := h3 i o h
 unfold Zds
 rw [h1]
 simp only [List.nil_append] at this ⊢
 simp [List.getD_eq_getElem?_getD, this]

theorem Zje {aos : List AOper} {S : Nat → Prop} (hS : ∀ (j : Nat) (o : AOper), aos[j]? = some o → S j → ∀ e ∈ o.after, S e) (hlt : ∀ (j : Nat) (o : AOper), aos[j]? = some o → ∀ e ∈ o.after, e < j) :
  ∀ (i : Nat) {o : AOper}, aos[i]? = some o → (∀ e ∈ o.after, S e) → ∀ {j : Nat}, ((Zds aos).getD i 0).testBit j = true → S j := by
 intro i
 induction i using Nat.strongRecOn with
 | _ i ih =>
 intro o ho hall j hj
 rw [Zom ho] at hj
 rcases Zgo hj with h | ⟨e, he, h⟩
 ·simp at h
 ·rcases h with h | rfl
  ·have hei := hlt i o ho e he
   have hil : i < aos.length := (List.getElem?_eq_some_iff.1 ho).1
   have hget : ((Zds aos).take i).getD e 0 = (Zds aos).getD e 0 := by
    simp [List.getD_eq_getElem?_getD, List.getElem?_take, hei]
   rw [hget] at h
   exact ih e hei (List.getElem?_eq_getElem (by omega)) (fun e' he' => hS e _ (List.getElem?_eq_getElem (by omega)) (hall e he) e' he') h
  ·exact hall _ he

structure DrawBase (aos : List AOper) : Prop where
 lt : ∀ (i : Nat) (o : AOper), aos[i]? = some o → ∀ e ∈ o.after, e < i
 dst : ∀ (i j : Nat) (oi oj : AOper) (t : Nat), aos[i]? = some oi → aos[j]? = some oj → oi.dst = some t → oj.dst = some t → i = j
 read : ∀ (i j : Nat) (oi oj : AOper) (t : Nat), aos[i]? = some oi → aos[j]? = some oj → i ≠ j → oj.dst = some t → oi.looks t = true → ZaR (Zds aos) i j = true
structure DrawOk (aos : List AOper) : Prop extends DrawBase aos where
 wr : ∀ (i j : Nat) (oi oj : AOper), aos[i]? = some oi → aos[j]? = some oj → i ≠ j → oi.op.isW = true → oj.op.isReg = false → ZaR (Zds aos) i j = true

theorem Zgp {aos : List AOper} (h : Zek aos = true) : DrawOk aos := by
 unfold Zek at h
 have key : ∀ (i : Nat) (oi : AOper), aos[i]? = some oi → (∀ e ∈ oi.after, e < i) ∧ ∀ (j : Nat) (oj : AOper), aos[j]? = some oj → i ≠ j → Zdy (Zds aos) i j oi oj = true := by
  intro i oi hi
  have h1 := List.all_eq_true.1 h i (List.mem_range.2 (List.getElem?_eq_some_iff.1 hi).1)
  simp only [hi, Bool.and_eq_true, List.all_eq_true, decide_eq_true_eq] at h1
  refine ⟨h1.1, fun j oj hj hne => ?_⟩
  have h2 := h1.2 j (List.mem_range.2 (List.getElem?_eq_some_iff.1 hj).1)
  simp only [hj, Bool.or_eq_true, beq_iff_eq] at h2
  exact h2.resolve_left hne
 refine ⟨⟨fun i o hi => (key i o hi).1, fun i j oi oj t hi hj h1 h2 => ?_, fun i j oi oj t hi hj hne h1 h2 => ?_⟩, fun i j oi oj hi hj hne h1 h2 => ?_⟩
 ·apply Classical.byContradiction
  intro hne
  have := (key i oi hi).2 j oj hj hne
  simp [Zdy, h1, h2] at this
 ·have := (key i oi hi).2 j oj hj hne
  simp only [Zdy, h1, h2, Bool.and_eq_true, Bool.not_true, Bool.false_or] at this
  exact this.1.2
 ·have := (key i oi hi).2 j oj hj hne
  simp only [Zdy, h1, h2, Bool.and_eq_true, Bool.not_true, Bool.false_or, Bool.or_false, Bool.or_eq_true] at this
  simpa using this.2

structure SepOk (s : SepC) (aos : List AOper) : Prop extends DrawBase aos where
 tgt : ∀ (i : Nat) (oi : AOper), aos[i]? = some oi → oi.op.isW = true → oi.op.setter = true ∧ ∃ t, oi.op.tgt = some (.tmp t) ∧ t ∈ s.ws ∧ stable aos i t = true
 pair : ∀ (i j : Nat) (oi oj : AOper), aos[i]? = some oi → aos[j]? = some oj → i ≠ j → oi.op.isW = true → oj.op.isReg = false → ZaR (Zds aos) i j = true ∨
  (oj.op.isCall' = true ∧ ∀ x ∈ oj.op.opds, x.among s.ps (stable aos j) = true) ∨
  (oj.op.isCall' = false ∧ ∃ p ∈ s.chk, (∃ x, oi.op.tgt = some x ∧ x.among p.1 (stable aos i) = true) ∧ (∀ x ∈ oj.op.opds, x.among p.2 (stable aos j) = true) ∧ (oj.op.makes' = true → ∃ t, oj.dst = some t ∧ t ∈ p.2))

theorem Zhz {s : SepC} {aos : List AOper} (h : Zlc s aos = true) : SepOk s aos := by
 unfold Zlc at h
 have key : ∀ (i : Nat) (oi : AOper), aos[i]? = some oi → (∀ e ∈ oi.after, e < i) ∧ Zkt s aos i oi = true ∧ ∀ (j : Nat) (oj : AOper), aos[j]? = some oj → i ≠ j → ZeK (Zds aos) i j oi oj = true ∧ Ziq s aos (Zds aos) i j oi oj = true := by
  intro i oi hi
  have h1 := List.all_eq_true.1 h i (List.mem_range.2 (List.getElem?_eq_some_iff.1 hi).1)
  simp only [hi, Bool.and_eq_true, List.all_eq_true, decide_eq_true_eq] at h1
  refine ⟨h1.1.1, h1.1.2, fun j oj hj hne => ?_⟩
  have h2 := h1.2 j (List.mem_range.2 (List.getElem?_eq_some_iff.1 hj).1)
  simp only [hj, Bool.or_eq_true, beq_iff_eq, Bool.and_eq_true] at h2
  exact h2.resolve_left hne
 refine ⟨⟨fun i o hi => (key i o hi).1, fun i j oi oj t hi hj h1 h2 => ?_, fun i j oi oj t hi hj hne h1 h2 => ?_⟩, fun i oi hi hw => ?_, fun i j oi oj hi hj hne hw hr => ?_⟩
 ·apply Classical.byContradiction
  intro hne
  have := ((key i oi hi).2.2 j oj hj hne).1
  simp [ZeK, h1, h2] at this
 ·have := ((key i oi hi).2.2 j oj hj hne).1
  simp only [ZeK, h1, h2, Bool.and_eq_true, Bool.not_true, Bool.false_or] at this
  exact this.2
 ·have := (key i oi hi).2.1
  simp only [Zkt, hw, Bool.not_true, Bool.false_or, Bool.and_eq_true] at this
  refine ⟨this.1, ?_⟩
  have h2 := this.2
  split at h2
  ·rename_i t ht
   simp only [Bool.and_eq_true, List.contains_iff_mem] at h2
   exact ⟨t, ht, h2.1, h2.2⟩
  ·simp at h2
 ·have := ((key i oi hi).2.2 j oj hj hne).2
  simp only [Ziq, hw, hr, Bool.not_true, Bool.false_or, Bool.or_eq_true] at this
  rcases this with h1 | h1
  ·exact .inl h1
  ·right
   split at h1
   ·rename_i hc
    exact .inl ⟨hc, List.all_eq_true.1 h1⟩
   ·rename_i hc
    obtain ⟨p, hp, h2⟩ := List.any_eq_true.1 h1
    simp only [Bool.and_eq_true, List.all_eq_true, Bool.or_eq_true, Bool.not_eq_true'] at h2
    have h4 : ∃ x, oi.op.tgt = some x ∧ x.among p.1 (stable aos i) = true := by
     have h5 := h2.1.1
     split at h5
     ·rename_i x hx; exact ⟨x, hx, h5⟩
     ·simp at h5
    refine .inr ⟨by simpa using hc, p, hp, h4, h2.1.2, fun hm => ?_⟩
    have h3 := h2.2.resolve_left (by rw [hm]; simp)
    split at h3
    ·rename_i t ht; exact ⟨t, ht, by simpa using h3⟩
    ·simp at h3

end Go.Abs
/- A slice literal that nobody writes to is frozen from the start. -/
namespace Go.Abs
open Go
variable [Inhabited Glob] [Lps]

section
variable {P : Program}

open Classical in
noncomputable def addFrz (F : Frz) (b : Nat) (w : World) : Frz where
 cells b' off := if b' = b then w.cell? ⟨b', off, none⟩ else F.cells b' off
 maps r := if r = b then (match w.heap[r]? with | some (.map es _) => some (es.toList.map fun e => (e.key, e.val)) | _ => none) else F.maps r

theorem Inv.addFrz {F : Frz} {L : Lay} {σ : Sto} {w : World} (hI : Inv F L σ w) {b : Nat} (hb : ¬ Zap L b) (hnb : ∀ off, F.cells b off = none) (hnm : F.maps b = none) : Inv (addFrz F b w) L σ w ∧ F.Le (addFrz F b w) := by
 have hle : F.Le (Abs.addFrz F b w) := by
  constructor
  ·intro b' o v h
   simp only [Abs.addFrz]
   split
   ·rename_i e; subst e; rw [hnb] at h; simp at h
   ·exact h
  ·intro r kv h
   simp only [Abs.addFrz]
   split
   ·rename_i e; subst e; rw [hnm] at h; simp at h
   ·exact h
 refine ⟨⟨fun b' off v h => ?_, fun r kv h => ?_, fun o loc gen ho => ?_, hI.lt, hI.inj, fun b' hb' => ?_, hI.dd, hI.glLe hle⟩, hle⟩
 ·simp only [Abs.addFrz] at h
  split at h
  ·exact h
  ·exact hI.fz _ _ _ h
 ·simp only [Abs.addFrz] at h
  split at h
  ·split at h
   ·rename_i es cl hw; exact ⟨es, cl, hw, Option.some.inj h⟩
   ·simp at h
  ·exact hI.fm _ _ h
 ·obtain ⟨ob, h1, h2⟩ := hI.obj o loc gen ho
  exact ⟨ob, h1, h2.mono hle (Evo.refl L) fun _ _ => rfl⟩
 ·have hne : b' ≠ b := by rintro rfl; exact hb hb'
  simp only [Abs.addFrz, if_neg hne]
  exact hI.sep b' hb'

def Zb9 (L : Lay) (n : Nat) : Lay := fun o => if o < n then L o else .un

theorem VRel.cut {F : Frz} {L : Lay} {n : Nat} {v : AVal} {cv : Value} (h : VRel F L v cv) (hu : v.under n = true) : VRel F (Zb9 L n) v cv :=
 h.names (Frz.Le.refl F) hu fun o ho => by
  have : o < n := by simpa using ho
  simp only [Zb9, if_pos this]; exact ZaA.refl _


theorem Zcv.under {F : Frz} {L : Lay} {w : World} {loc : Loc} {gen n : Nat} {ob : AObj} (h2 : Zcv F L w loc gen ob) (hlt : ∀ i, L i ≠ .un → i < n) : ob.under n = true := by
 have key : ∀ {v : AVal} {cv : Value}, VRel F L v cv → v.under n = true := fun hv => hv.named fun i hi => by simpa using hlt i hi
 cases ob with
 | cells nl cs =>
  obtain ⟨_, _, h5⟩ := h2
  cases loc with
  | blk b top =>
   obtain ⟨_, c, elem, _, _, _, hx⟩ := h5
   refine Zr.2 fun x hx' => ?_
   obtain ⟨i, hi⟩ := List.getElem?_of_mem hx'
   exact key (hx i x hi)
  | nil => obtain ⟨_, rfl⟩ := h5; rfl
  | mp r => exact h5.elim
 | map ks vs =>
  obtain ⟨r, es, cl, _, _, ⟨_, _, hk, hv⟩, _⟩ := h2
  simp only [AObj.under, Bool.and_eq_true]
  refine ⟨Zr.2 fun x hx' => ?_, Zr.2 fun x hx' => ?_⟩
  ·obtain ⟨i, hi⟩ := List.getElem?_of_mem hx'
   obtain ⟨m, _, hm⟩ := hk i x hi; exact key hm
  ·obtain ⟨i, hi⟩ := List.getElem?_of_mem hx'
   obtain ⟨m, _, hm⟩ := hv i x hi; exact key hm
 | loop ps b e st =>
  obtain ⟨r, R, _, _, _, _, _, _, hx⟩ := h2
  refine Zr.2 fun x hx' => ?_
  obtain ⟨i, hi⟩ := List.getElem?_of_mem hx'
  exact key (hx i x hi)
 | dead => rfl

theorem Zcv.cutTo {F : Frz} {L : Lay} {w : World} {loc : Loc} {gen n : Nat} {ob : AObj} (h2 : Zcv F L w loc gen ob) (hu : ob.under n = true) : Zcv F (Zb9 L n) w loc gen ob := by
 cases ob with
 | cells nl cs =>
  obtain ⟨h3, h4, h5⟩ := h2
  refine ⟨h3, h4, ?_⟩
  have hu' := Zr.1 hu
  cases loc with
  | blk b top =>
   obtain ⟨h6, c, elem, h7, h8, h9, hx⟩ := h5
   exact ⟨h6, c, elem, h7, h8, h9, fun p x hp => (hx p x hp).cut (hu' x (List.mem_of_getElem? hp))⟩
  | nil => exact h5
  | mp r => exact h5
 | map ks vs =>
  obtain ⟨r, es, cl, h3, h4, ⟨h5, h6, hk, hv⟩, hst⟩ := h2
  simp only [AObj.under, Bool.and_eq_true] at hu
  have hu1 := Zr.1 hu.1
  have hu2 := Zr.1 hu.2
  exact ⟨r, es, cl, h3, h4, ⟨h5, h6, fun i c hc => let ⟨m, a, b⟩ := hk i c hc; ⟨m, a, b.cut (hu1 c (List.mem_of_getElem? hc))⟩, fun i c hc => let ⟨m, a, b⟩ := hv i c hc; ⟨m, a, b.cut (hu2 c (List.mem_of_getElem? hc))⟩⟩, hst⟩
 | loop ps b e st =>
  obtain ⟨r, R, h3, h4, h5, h6, h7, h8, hx⟩ := h2
  have hu' := Zr.1 hu
  exact ⟨r, R, h3, h4, h5, h6, h7, h8, fun i v hv => (hx i v hv).cut (hu' v (List.mem_of_getElem? hv))⟩
 | dead => exact h2

theorem Zli {o : Oper} {a : AOp} (hc : cOp P o = some a) (ha : a.isQ = true) {lv : List Nat} {e : Env} {cs : List AVal} {k len : Nat} (hp : AVal.pures cs = true) (hlen : cs.length = len * k) (hk : 0 < k) {F : Frz} {L : Lay} {σs : Sto} {w : World}
  (hs2 : Zc lv a e σs = some (.ref σs.length cs.length 0 len k, σs ++ [.cells false cs])) {ρ : Operand → Value} (hI : Inv F L σs w) (hρ : ∀ v, ρ (.const v) = v) (hr : ∀ x ∈ o.op.operands.toList, Zaf F L e ρ x) :
   ∃ cv w' F' L', (execOp ρ o).run P w = .ok (.value cv) w' ∧ VRel F' L' (.list k (ZY k len cs)) cv ∧ Inv F' L' σs w' ∧ Adv F L w F' L' w' ∧ ∀ i, L' i ≠ .un ↔ L i ≠ .un := by
 obtain ⟨new, he, hq⟩ := Zgr (F := F) hc ha hs2
 obtain rfl := List.append_cancel_left he
 have hI2 := hI.extend (σ' := σs ++ [.cells false cs]) (fun i hi => List.getElem?_append_left hi) (by simp)
 obtain ⟨cv, w', L1, hrun, hv, hI1, hA, hid⟩ := hq hI2 ⟨fun i hi => List.getElem?_append_left hi, fun i ob hob => ⟨by rw [List.getElem?_append_right (by omega), Nat.add_sub_cancel_left]; exact hob, hI.unFresh (by omega)⟩⟩ hρ hr
 have hσ : (σs ++ [AObj.cells false cs])[σs.length]? = some (.cells false cs) := by simp
 rcases hI1.readRef hv hσ rfl with ⟨h, _⟩ | ⟨b, top, c, elem, cap, rfl, hL, hw, hlc, htop, hgc, hlen', hct, hcs, hone, hn, hrel⟩
 ·cases h
 obtain ⟨hIk, hAk⟩ := hI1.kill (o := σs.length) (σ' := (σs ++ [AObj.cells false cs]).set σs.length .dead) (by rw [hL]; simp) (by simp) (fun i _ hi => by rw [List.getElem?_set, if_neg (Ne.symm hi)]) (by simp)
 have hown : Zap L1 b := ⟨_, _, _, hL, rfl⟩
 have hno : ¬ Zap (Zaa L1 σs.length .dead) b := by
  rintro ⟨i, l, g, h1, h2⟩
  by_cases e : i = σs.length
  ·subst e; rw [Zk] at h1; simp at h1
  ·rw [ZL _ _ e] at h1; exact e (hI1.inj _ _ _ _ _ _ b h1 hL h2 rfl)
 obtain ⟨hs1, hs3⟩ := hI1.sep b hown
 obtain ⟨hI3, hle⟩ := hIk.addFrz hno hs1 hs3
 have hlive : ∀ {o loc g}, Zb9 L1 σs.length o = .live loc g → o < σs.length ∧ L1 o = .live loc g := by
  intro o loc g ho
  unfold Zb9 at ho
  split at ho
  ·exact ⟨by assumption, ho⟩
  ·simp at ho
 have hupd : ∀ {o}, o < σs.length → Zaa L1 σs.length .dead o = L1 o := fun {o} ho => ZL _ _ (by omega)
 have hget : ∀ {o : Nat}, o < σs.length → ((σs ++ [AObj.cells false cs]).set σs.length .dead)[o]? = σs[o]? := fun {o} ho => by
  rw [List.getElem?_set, if_neg (by omega), List.getElem?_append_left ho]
 have hownc : ∀ {b'}, Zap (Zb9 L1 σs.length) b' → Zap (Zaa L1 σs.length .dead) b' := fun ⟨o, loc, g, h1, h2⟩ => ⟨o, loc, g, by rw [hupd (hlive h1).1]; exact (hlive h1).2, h2⟩
 have hcutEq : Zb9 (Zaa L1 σs.length .dead) σs.length = Zb9 L1 σs.length := by
  funext o
  unfold Zb9
  split
  ·rw [hupd (by assumption)]
  ·rfl
 refine ⟨_, w', Abs.addFrz F b w', Zb9 L1 σs.length, hrun, ?_, ⟨hI3.fz, hI3.fm, fun o loc gen ho => ?_, fun o ho => ?_, fun o o' l l' g g' b' h1 h2 => hI1.inj _ _ _ _ _ _ b' (hlive h1).2 (hlive h2).2, fun b' hb => hI3.sep b' (hownc hb), fun o ho => ?_, hI3.gl⟩,
  ⟨hle, fun o => ?_, hA.os, hA.tape, hA.output, hA.size, fun b' hb ho => ?_, hA.keep, fun b' hb' hno' => ?_⟩, fun i => ?_⟩
 ·have hpure' := Zr.1 hp
  have hfl := Zbf k hk len cs hlen hone
  have := VRel.list (F := Abs.addFrz F b w') (L := Zb9 L1 σs.length) (xs := ZY k len cs) (a := ⟨b, 0, none⟩) (cap := cap) (k := k) (fv := fun p => c.getD p undef)
   (fun _ => rfl) (by rw [Z0]; omega) (ZaT k hk _ _ hlen hone)
   (fun p x hp => by
    rw [hfl] at hp
    have := (List.getElem?_eq_some_iff.1 hp).1
    simp only [Abs.addFrz, if_true]
    have := World.cell_of_heap hw (p := 0 + p) (by omega)
    simpa using this)
   (fun p x hp => by rw [hfl] at hp; exact hone x (List.mem_of_getElem? hp))
   (fun p x hp => by rw [hfl] at hp; exact ((hrel _ x hp).toPure (hpure' x (List.mem_of_getElem? hp)) noL).frz hle)
  rwa [Z0] at this
 ·obtain ⟨hlt, ho'⟩ := hlive ho
  obtain ⟨ob, h1, h2⟩ := hI3.obj o loc gen (by rw [hupd hlt]; exact ho')
  rw [hget hlt] at h1
  refine ⟨ob, h1, ?_⟩
  rw [← hcutEq]
  refine h2.cutTo ?_
  have hLo : L o ≠ .un := by
   rcases (hid o).1 (by rw [ho']; simp) with h | h
   ·exact h
   ·exact absurd h.1 (by omega)
  cases hLL : L o with
  | un => exact absurd hLL hLo
  | dead => have := hA.evo o; rw [hLL, ho'] at this; cases this
  | live loc' g' =>
   obtain ⟨ob', k1, k2⟩ := hI.obj o loc' g' hLL
   rw [h1] at k1
   obtain rfl := Option.some.inj k1
   exact k2.under fun i hi => hI.lt i hi
 ·unfold Zb9 at ho
  split at ho
  ·assumption
  ·exact absurd rfl ho
 ·unfold Zb9 at ho
  split at ho
  ·rename_i hlt
   have := hI3.dd o (by rw [hupd hlt]; exact ho)
   rwa [hget hlt] at this
  ·simp at ho
 ·unfold Zb9
  split
  ·exact hA.evo o
  ·rename_i hge
   rw [hI.unFresh (by omega)]; trivial
 ·obtain ⟨o, loc, g, h1, h2⟩ := ho
  exact hA.own b' hb ⟨o, loc, g, (hlive h1).2, h2⟩
 ·have hne : b' ≠ b := by rintro rfl; exact hno' (hA.own _ hb' hown)
  exact ⟨fun off => by simp only [Abs.addFrz, if_neg hne], by simp only [Abs.addFrz, if_neg hne]⟩
 ·unfold Zb9
  split
  ·rename_i hlt
   refine (hid i).trans ⟨fun h => h.resolve_right fun h => absurd h.1 (by omega), .inl⟩
  ·rename_i hge
   rw [hI.unFresh (by omega)]

theorem ZhD {o : Oper} {k len : Nat} {z : List AVal} {ps : List (Nat × Opd)} (hc : cOp P o = some (.bslice k len z ps)) {lv : List Nat} {e : Env} {σ σ' : Sto} {v : AVal} (hs : Zc lv (.flist k len z ps) e σ = some (v, σ')) :
  σ' = σ ∧ ∀ {F : Frz} {L : Lay} {σs : Sto} {w : World} {ρ : Operand → Value}, Inv F L σs w → (∀ v, ρ (.const v) = v) → (∀ x ∈ o.op.operands.toList, Zaf F L e ρ x) →
   ∃ cv w' F' L', (execOp ρ o).run P w = .ok (.value cv) w' ∧ VRel F' L' v cv ∧ Inv F' L' σs w' ∧ Adv F L w F' L' w' ∧ ∀ i, L' i ≠ .un ↔ L i ≠ .un := by
 simp only [Zc, Option.bind_eq_some_iff] at hs
 obtain ⟨cs, hf, hs⟩ := hs
 split at hs
 case isFalse => simp at hs
 rename_i hcond
 obtain ⟨hp, hlen, hk⟩ := hcond
 obtain ⟨rfl, rfl⟩ := Prod.mk.inj (Option.some.inj hs)
 exact ⟨rfl, fun {F L σs w ρ} hI hρ hr => Zli (lv := lv) (e := e) hc rfl hp hlen hk (by simp only [Zc, hf, Option.map_some]) hI hρ hr⟩

theorem ZfK {α : Type} (n : Nat) (z : List α) : (List.replicate n z).flatten.length = n * z.length := by simp

theorem ZhE {o : Oper} {k b : Nat} {z : List AVal} {l c : Opd} (hc : cOp P o = some (.mkslice k b z l c)) {lv : List Nat} {e : Env} {σ σ' : Sto} {v : AVal} (hs : Zc lv (.mkslF k b z l c) e σ = some (v, σ')) :
  σ' = σ ∧ ∀ {F : Frz} {L : Lay} {σs : Sto} {w : World} {ρ : Operand → Value}, Inv F L σs w → (∀ v, ρ (.const v) = v) → (∀ x ∈ o.op.operands.toList, Zaf F L e ρ x) →
   ∃ cv w' F' L', (execOp ρ o).run P w = .ok (.value cv) w' ∧ VRel F' L' v cv ∧ Inv F' L' σs w' ∧ Adv F L w F' L' w' ∧ ∀ i, L' i ≠ .un ↔ L i ≠ .un := by
 simp only [Zc] at hs
 split at hs
 case h_2 => simp at hs
 rename_i n m h1 h2
 split at hs
 case isFalse => simp at hs
 rename_i hcond
 obtain ⟨g1, rfl, g3, g4, g5, g6, g7⟩ := hcond
 obtain ⟨rfl, rfl⟩ := Prod.mk.inj (Option.some.inj hs)
 refine ⟨rfl, fun {F L σs w ρ} hI hρ hr => Zli (lv := lv) (e := e) hc rfl g7 (by rw [ZfK, g5]) g6 ?_ hI hρ hr⟩
 simp only [Zc, h1, h2]
 rw [if_pos ⟨g1, Int.le_refl _, g3, g4⟩, ZfK, g5]

theorem Zju {k bytes : Nat} {s x : Opd} {lv : List Nat} {e : Env} {σ σ' : Sto} {v : AVal} (hs : Zc lv (.appendF k bytes s x) e σ = some (v, σ')) :
  ∃ o len cs σ1, 0 < k ∧ AVal.pures cs = true ∧ cs.length = len * k ∧ v = .list k (ZY k len cs) ∧ Zc lv (.append k bytes s x) e σ = some (.ref o (len * k) 0 len k, σ1) ∧ σ1[o]? = some (.cells false cs) ∧ σ' = σ1.set o .dead ∧ σ1.length = σ.length := by
 simp only [Zc] at hs
 split at hs
 case h_2 => simp at hs
 rename_i m new o gen off len k' hrow hev
 split at hs
 case h_2 => simp at hs
 rename_i cs hσ
 split at hs
 case isFalse => simp at hs
 rename_i hc
 obtain ⟨h1, h2, h3, h4, rfl, h6, rfl, h8, h9, h10⟩ := hc
 obtain ⟨rfl, rfl⟩ := Prod.mk.inj (Option.some.inj hs)
 have hlt := (List.getElem?_eq_some_iff.1 hσ).1
 refine ⟨o, len + m, cs ++ new, σ.set o (.cells false (cs ++ new)), h2, h10, by rw [List.length_append, h4, h1, ← h8, Nat.add_mul], rfl, ?_, by rw [List.getElem?_set_self hlt], by rw [List.set_set], by simp⟩
 simp only [Zc, hrow, hev, hσ]
 rw [if_pos ⟨h1, h2, h3⟩, if_pos ⟨h4, True.intro, h6⟩]
 by_cases hm : m = 0
 ·subst hm
  have : new = [] := List.eq_nil_of_length_eq_zero (by simpa using h1)
  subst this
  have hset : σ.set o (.cells false cs) = σ := by
   apply List.ext_getElem?
   intro i
   rw [List.getElem?_set]
   split
   ·rename_i hi; subst hi; rw [hσ]
   ·rfl
  rw [if_pos rfl, List.append_nil, Nat.add_zero, hset, ← h8]
 ·rw [if_neg hm, if_neg, if_pos ⟨True.intro, h9⟩, h8, ← h4, List.take_length]
  have : 0 < m * k := Nat.mul_pos (by omega) h2
  rw [Nat.add_mul, h8]; omega

theorem Zjv {o : Oper} {k bytes : Nat} {s x : Opd} (hc : cOp P o = some (.append k bytes s x)) {lv : List Nat} {e : Env} {σ σ' : Sto} {v : AVal} (hs : Zc lv (.appendF k bytes s x) e σ = some (v, σ'))
  {F : Frz} {L : Lay} {w : World} (hI : Inv F L σ w) {ρ : Operand → Value} (hρ : ∀ v, ρ (.const v) = v) (hr : ∀ x ∈ o.op.operands.toList, Zaf F L e ρ x) :
  ∃ cv w' F' L', (execOp ρ o).run P w = .ok (.value cv) w' ∧ VRel F' L' v cv ∧ Inv F' L' σ' w' ∧ Adv F L w F' L' w' ∧ Ids L σ L' σ' := by
 obtain ⟨ob, len, cs, σ1, hk, hp, hlen, rfl, hs1, hσ, rfl, hl1⟩ := Zju hs
 obtain ⟨w', L1, hres, hI1, hA, hids⟩ := Zku hc rfl hs1 hI hρ hr
 rcases hres with ⟨cv, hrun, hv⟩ | ⟨_, h⟩
 case inr => cases h
 rcases hI1.readRef hv hσ hlen with ⟨h, _⟩ | ⟨b, top, c, elem, cap, rfl, hL, hw, hlc, htop, hgc, hlen', hct, hcs, hone, hn, hrel⟩
 ·cases h
 have hlt : ob < σ1.length := (List.getElem?_eq_some_iff.1 hσ).1
 obtain ⟨hIk, hAk⟩ := hI1.kill (o := ob) (σ' := σ1.set ob .dead) (by rw [hL]; simp) (by simp) (fun i _ hi => by rw [List.getElem?_set, if_neg (Ne.symm hi)]) (by simp [hlt])
 have hown : Zap L1 b := ⟨_, _, _, hL, rfl⟩
 have hno : ¬ Zap (Zaa L1 ob .dead) b := by
  rintro ⟨i, l, g, h1, h2⟩
  by_cases e : i = ob
  ·subst e; rw [Zk] at h1; simp at h1
  ·rw [ZL _ _ e] at h1; exact e (hI1.inj _ _ _ _ _ _ b h1 hL h2 rfl)
 obtain ⟨hs1', hs3⟩ := hI1.sep b hown
 obtain ⟨hI3, hle⟩ := hIk.addFrz hno hs1' hs3
 refine ⟨_, w', Abs.addFrz F b w', Zaa L1 ob .dead, hrun, ?_, hI3, hA.trans ⟨hle, hAk.evo, hAk.os, hAk.tape, hAk.output, hAk.size, hAk.own, hAk.keep, fun b' hb' hno' => ?_⟩, fun i => ?_⟩
 ·have hpure' := Zr.1 hp
  have hfl := Zbf k hk len cs hlen hone
  have := VRel.list (F := Abs.addFrz F b w') (L := Zaa L1 ob .dead) (xs := ZY k len cs) (a := ⟨b, 0, none⟩) (cap := cap) (k := k) (fv := fun p => c.getD p undef)
   (fun _ => rfl) (by rw [Z0]; omega) (ZaT k hk _ _ hlen hone)
   (fun p x hp => by
    rw [hfl] at hp
    have := (List.getElem?_eq_some_iff.1 hp).1
    simp only [Abs.addFrz, if_true]
    have := World.cell_of_heap hw (p := 0 + p) (by omega)
    simpa using this)
   (fun p x hp => by rw [hfl] at hp; exact hone x (List.mem_of_getElem? hp))
   (fun p x hp => by rw [hfl] at hp; exact ((hrel _ x hp).toPure (hpure' x (List.mem_of_getElem? hp)) noL).frz hle)
  rwa [Z0] at this
 ·have hne : b' ≠ b := by rintro rfl; exact hno' hown
  exact ⟨fun off => by simp only [Abs.addFrz, if_neg hne], by simp only [Abs.addFrz, if_neg hne]⟩
 ·by_cases e : i = ob
  ·subst e
   rw [Zk]
   refine ⟨fun _ => ?_, fun _ => by simp⟩
   have := (hids i).1 (by rw [hL]; simp)
   rw [hl1] at this
   rwa [List.length_set, hl1]
  ·rw [ZL _ _ e, hids i, List.length_set, hl1]

theorem Zkz {o : Oper} {z : List AVal} {off k : Nat} (hc : cOp P o = some (.alloc z)) {lv : List Nat} {e : Env} {σ σ' : Sto} {v : AVal} (hs : Zc lv (.allocn z off k) e σ = some (v, σ'))
  {F : Frz} {L : Lay} {w : World} (hI : Inv F L σ w) {ρ : Operand → Value} (hρ : ∀ v, ρ (.const v) = v) (hr : ∀ x ∈ o.op.operands.toList, Zaf F L e ρ x) :
  ∃ cv w' L', (execOp ρ o).run P w = .ok (.value cv) w' ∧ VRel F L' v cv ∧ Inv F L' σ' w' ∧ Adv F L w F L' w' ∧ Ids L σ L' σ' := by
 simp only [Zc] at hs
 split at hs
 case h_2 => simp at hs
 rename_i hz
 obtain ⟨rfl, rfl⟩ := Prod.mk.inj (Option.some.inj hs)
 have hs1 : Zc lv (.alloc z) e σ = some (.ptr σ.length z.length 0, σ ++ [.cells false z]) := rfl
 obtain ⟨w', L1, hres, hI1, hA, hids⟩ := Zku hc rfl hs1 hI hρ hr
 rcases hres with ⟨cv, hrun, hv⟩ | ⟨_, h⟩
 case inr => cases h
 have hσ : (σ ++ [AObj.cells false z])[σ.length]? = some (.cells false z) := by simp
 obtain ⟨b, top, c, elem, rfl, hL, hw, hct, hcs, hone, hn, hrel⟩ := hI1.readPtr hv hσ rfl
 have hun : L1 (σ.length + 1) = .un := hI1.unFresh (by simp)
 obtain ⟨hI2, hA2⟩ := hI1.change (o := σ.length + 1) (loc := .nil) (gen := 0) (ob := .cells true []) (σ' := σ ++ [.cells false z, .cells true []]) (w' := w') (by simp) (fun i hi _ => by
   have hi' : i < σ.length + 1 := by simpa using hi
   rw [show σ ++ [AObj.cells false z, AObj.cells true []] = (σ ++ [AObj.cells false z]) ++ [AObj.cells true []] by simp, List.getElem?_append_left (by simpa using hi')])
  (by rw [List.getElem?_append_right (by omega)]; simp) (by rw [hun]; trivial) rfl rfl rfl (Nat.le_refl _) (fun b hb => by simp [Loc.block?] at hb) (fun _ _ _ => rfl) ⟨rfl, fun c hc => by simp at hc, rfl, rfl⟩
 have hL2 : Zaa L1 (σ.length + 1) (.live .nil 0) σ.length = .live (.blk b top) z.length := by rw [ZL _ _ (by omega)]; exact hL
 have hlz : off < z.length := (List.getElem?_eq_some_iff.1 hz).1
 have hoff := hrel off .nils hz
 obtain ⟨hI3, hA3⟩ := hI2.change (o := σ.length) (loc := .blk b top) (gen := z.length) (ob := .cells false (z.set off (.ref (σ.length + 1) 0 0 0 k))) (σ' := σ ++ [.cells false (z.set off (.ref (σ.length + 1) 0 0 0 k)), .cells true []]) (w' := w')
  (by simp) (fun i hi hne => by
   rcases Nat.lt_or_ge i σ.length with h | h
   ·rw [List.getElem?_append_left h, List.getElem?_append_left h]
   ·have : i = σ.length + 1 := by simp at hi; omega
    subst this
    rw [List.getElem?_append_right (by omega), List.getElem?_append_right (by omega)]; simp)
  (by simp) (by rw [hL2]; exact ZaA.refl _) rfl rfl rfl (Nat.le_refl _) (fun b' hb' => .inl ⟨_, _, hL2, hb'⟩) (fun _ _ _ => rfl)
  ⟨by simp, fun x hx => by
   rcases List.mem_or_eq_of_mem_set hx with hx | rfl
   ·exact hone x hx
   ·rfl, fun h => by simp at h, c, elem, hw, hct, by simpa using hcs, fun p x hp => by
   rw [List.getElem?_set] at hp
   split at hp
   ·rename_i e
    subst e
    obtain rfl := Option.some.inj hp
    generalize Array.getD c off undef = q at hoff
    cases hoff
    refine .ref (by rw [Zk]; simp) ⟨_, _, _, rfl⟩ (fun loc g hl => by rw [Zk] at hl; injection hl with _ e; omega) (fun loc hl => ?_)
    rw [Zk] at hl; injection hl with e1 e2; subst e1
    exact ⟨rfl, rfl, rfl⟩
   ·exact (hrel p x hp).mono hA2.frz hA2.evo⟩
 refine ⟨_, w', _, hrun, (hv.mono hA2.frz hA2.evo).mono hA3.frz hA3.evo, hI3, (hA.trans hA2).trans hA3, fun i => ?_⟩
 have h1 := hids i
 simp only [List.length_append, List.length_cons, List.length_nil] at h1 ⊢
 by_cases e1 : i = σ.length
 ·subst e1; rw [Zk]; simp
 ·rw [ZL _ _ e1]
  by_cases e2 : i = σ.length + 1
  ·subst e2; rw [Zk]; simp
  ·rw [ZL _ _ e2, h1]
   constructor
   ·rintro (h | h)
    ·exact .inl h
    ·right; omega
   ·rintro (h | h)
    ·exact .inl h
    ·right; omega

def ZoB : AOp → AOp
 | .flist k l zero parts => .bslice k l zero parts
 | .appendF k b s x => .append k b s x
 | .allocn z _ _ => .alloc z
 | .mkslF k b z l c => .mkslice k b z l c
 | a => a
def ZtX (P : Program) (F : Frz) (L : Lay) (σ σ' : Sto) (w : World) (r : Result Next) (v : AVal) : Prop :=
 ∃ w' F' L', ((∃ cv, r = .ok (.value cv) w' ∧ VRel F' L' v cv) ∨ (r = .ok .skip w' ∧ v = .und)) ∧ Inv F' L' σ' w' ∧ Adv F L w F' L' w' ∧ Ids L σ L' σ'

theorem Ziw {o : Oper} {a : AOp} (hc : cOp P o = some (ZoB a)) (hnc : a.isCall = false) {lv : List Nat} {e : Env} {σ σ' : Sto} {v : AVal} (hs : Zc lv a e σ = some (v, σ')) {F : Frz} {L : Lay} {w : World} (hI : Inv F L σ w)
  {ρ : Operand → Value} (hρ : ∀ v, ρ (.const v) = v) (hr : ∀ x ∈ o.op.operands.toList, Zaf F L e ρ x) : ZtX P F L σ σ' w ((execOp ρ o).run P w) v := by
 cases a
 case flist k l z ps =>
  obtain ⟨rfl, h⟩ := ZhD hc hs
  obtain ⟨cv, w', F', L', h1, h2, h3, h4, h5⟩ := h hI hρ hr
  exact ⟨w', F', L', .inl ⟨cv, h1, h2⟩, h3, h4, fun i => (h5 i).trans ⟨.inl, fun g => g.elim id fun g => by omega⟩⟩
 case mkslF k b z l c =>
  obtain ⟨rfl, h⟩ := ZhE hc hs
  obtain ⟨cv, w', F', L', h1, h2, h3, h4, h5⟩ := h hI hρ hr
  exact ⟨w', F', L', .inl ⟨cv, h1, h2⟩, h3, h4, fun i => (h5 i).trans ⟨.inl, fun g => g.elim id fun g => by omega⟩⟩
 case appendF k b s x =>
  obtain ⟨cv, w', F', L', h1, h2, h3, h4, h5⟩ := Zjv hc hs hI hρ hr
  exact ⟨w', F', L', .inl ⟨cv, h1, h2⟩, h3, h4, h5⟩
 case allocn z off k =>
  obtain ⟨cv, w', L', h1, h2, h3, h4, h5⟩ := Zkz hc hs hI hρ hr
  exact ⟨w', F, L', .inl ⟨cv, h1, h2⟩, h3, h4, h5⟩
 all_goals
  obtain ⟨w', L', h1, h2, h3, h4⟩ := Zku hc hnc hs hI hρ hr
  exact ⟨w', F, L', h1, h2, h3, h4⟩
end
end Go.Abs
