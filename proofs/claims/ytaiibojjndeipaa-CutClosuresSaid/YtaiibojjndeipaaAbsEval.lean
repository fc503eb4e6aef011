/- The abstract machine, run: a program that the kernel can reckon with. -/
import Derived.Test.YtaiibojjndeipaaAbsRun
set_option linter.all false
namespace Go.Abs
open Go

abbrev CallE := Bool → FuncId → List AVal → Sto → Option (AVal × Sto)

def evOper (cw : CallE) (o : AOper) (e : Env) (σ : Sto) : Option (Env × Sto) :=
  match o.op with
  | .call p f args =>
    match cw p f (args.map (ev e)) σ with
    | some (v, σ') => some (put e o.dst v, σ')
    | none => none
  | .callv p x args =>
    match ev e x with
    | .clo (.func f) first captured =>
      match cw p f (first ++ args.map (ev e) ++ captured) σ with
      | some (v, σ') => some (put e o.dst v, σ')
      | none => none
    | _ => none
  | op =>
    match stepOp [] op e σ with
    | some (v, σ') => some (put e o.dst v, σ')
    | none => none

def evOps (cw : CallE) : List AOper → Env → Sto → Option (Env × Sto)
  | [], e, σ => some (e, σ)
  | o :: os, e, σ =>
    match wantedA o e with
    | some true =>
      match evOper cw o e σ with
      | some (e', σ') => evOps cw os e' σ'
      | none => none
    | some false => evOps cw os (put e o.dst skipped) σ
    | none => none

def evGOps (cw : CallE) : List GOp → Env → Sto → Option (Env × Sto)
  | [], e, σ => some (e, σ)
  | .op o :: os, e, σ =>
    match evOps cw [o] e σ with
    | some (e', σ') => evGOps cw os e' σ'
    | none => none
  | .gh g :: os, e, σ =>
    match ghostA g e σ with
    | some (e', σ') => evGOps cw os e' σ'
    | none => none

def evLoop (body : Env → Sto → Option (AExit × Env × Sto)) : Nat → Env → Sto → Option (AExit × Env × Sto)
  | 0, _, _ => none
  | n + 1, e, σ =>
    match body e σ with
    | some (.normal, e', σ') => evLoop body n e' σ'
    | r => r

def evCode (cw : CallE) (n : Nat) : ACode → Env → Sto → Option (AExit × Env × Sto)
  | .skip, e, σ => some (.normal, e, σ)
  | .region _ ops, e, σ =>
    match evOps cw ops e σ with
    | some (e', σ') => some (.normal, e', σ')
    | none => none
  | .regionG ops, e, σ =>
    match evGOps cw ops e σ with
    | some (e', σ') => some (.normal, e', σ')
    | none => none
  | .seq a b, e, σ =>
    match evCode cw n a e σ with
    | some (.normal, e', σ') => evCode cw n b e' σ'
    | r => r
  | .cond c a b, e, σ =>
    match ev e c with
    | .bool true => evCode cw n a e σ
    | .bool false => evCode cw n b e σ
    | _ => none
  | .block id b, e, σ =>
    match evCode cw n b e σ with
    | some (.exit i, e', σ') => if i = id then some (.normal, e', σ') else some (.exit i, e', σ')
    | r => r
  | .loop b, e, σ => evLoop (evCode cw n b) n e σ
  | .scope b, e, σ => evCode cw n b e σ
  | .exit id, e, σ => some (.exit id, e, σ)
  | .ret, e, σ => some (.ret, e, σ)
  | .trunc b, e, σ =>
    match evCode cw n b e σ with
    | some (.ret, e', σ') => some (.ret, e', σ')
    | some (x, e', σ') => if (σ'.take σ.length).all (AObj.under σ.length) = true then some (x, sanitize σ.length e', σ'.take σ.length) else none
    | none => none
  | .ghost g, e, σ =>
    match ghostA g e σ with
    | some (e', σ') => some (.normal, e', σ')
    | none => none

def evCall (T : FuncId → Option AFunc) : Nat → CallE
  | 0, _, _, _, _ => none
  | n + 1, true, f, args, σ =>
    match args.mapM (snapA σ snapDepth), T f with
    | some as, some af =>
      match evCode (evCall T n) n af.code (initEnv af.ntmps as) [] with
      | some (.exit _, _, _) => none
      | some (_, e, σ') =>
        match resultsA af.results e σ' with
        | some v =>
          match snapA σ' snapDepth v with
          | some v' => if AVal.pures args = true ∨ v'.flat = true then some (v', σ) else none
          | none => none
        | none => none
      | none => none
    | _, _ => none
  | n + 1, false, f, args, σ =>
    match T f with
    | some af =>
      match evCode (evCall T n) n af.code (initEnv af.ntmps args) σ with
      | some (.exit _, _, _) => none
      | some (_, e, σ') =>
        match resultsA af.results e σ' with
        | some v => some (v, σ')
        | none => none
      | none => none
    | none => none

def Snd (cw : CallW) (ce : CallE) : Prop := ∀ (p : Bool) (f : FuncId) (args : List AVal) (σ : Sto) (v : AVal) (σ' : Sto), ce p f args σ = some (v, σ') → ∀ Q : Post, Q v σ' → cw p f args [] σ Q

theorem evOper_sound {cw : CallW} {ce : CallE} (hS : Snd cw ce) {o : AOper} {e : Env} {σ : Sto} {e' : Env} {σ' : Sto} (h : evOper ce o e σ = some (e', σ')) {K : Env → Sto → Prop} (hK : K e' σ') : wpOper cw [] o e σ K := by
  obtain ⟨dst, op, g, a, r⟩ := o
  cases op <;> simp only [evOper, wpOper] at h ⊢
  case call p f args =>
    split at h
    · rename_i v τ hc
      obtain ⟨rfl, rfl⟩ := Prod.mk.inj (Option.some.inj h)
      exact hS _ _ _ _ _ _ hc (fun v σ' => K (put e dst v) σ') hK
    · simp at h
  case callv p x args =>
    cases hx : ev e x <;> rw [hx] at h <;> try (simp at h; done)
    rename_i f first captured
    cases f <;> try (simp at h; done)
    rename_i f
    simp only at h ⊢
    split at h
    · rename_i v τ hc
      obtain ⟨rfl, rfl⟩ := Prod.mk.inj (Option.some.inj h)
      exact hS _ _ _ _ _ _ hc (fun v σ' => K (put e dst v) σ') hK
    · simp at h
  all_goals
    generalize stepOp [] _ e σ = q at h ⊢
    cases q with
    | none => simp at h
    | some q =>
      obtain ⟨v, τ⟩ := q
      obtain ⟨rfl, rfl⟩ := Prod.mk.inj (Option.some.inj h)
      exact hK

theorem evOps_sound {cw : CallW} {ce : CallE} (hS : Snd cw ce) : ∀ (os : List AOper) {e : Env} {σ : Sto} {e' : Env} {σ' : Sto}, evOps ce os e σ = some (e', σ') → ∀ {K : Env → Sto → Prop}, K e' σ' → wpOpsA cw [] os e σ K
  | [], e, σ, e', σ', h, K, hK => by
    obtain ⟨rfl, rfl⟩ := Prod.mk.inj (Option.some.inj h); exact hK
  | o :: os, e, σ, e', σ', h, K, hK => by
    simp only [evOps] at h
    simp only [wpOpsA]
    cases hw : wantedA o e with
    | none => rw [hw] at h; simp at h
    | some b =>
      rw [hw] at h
      cases b <;> simp only at h ⊢
      · exact evOps_sound hS os h hK
      · split at h
        · rename_i e1 σ1 h1
          exact evOper_sound hS h1 (K := fun e' σ' => wpOpsA cw [] os e' σ' K) (evOps_sound hS os h hK)
        · simp at h

theorem evGOps_sound {cw : CallW} {ce : CallE} (hS : Snd cw ce) : ∀ (os : List GOp) {e : Env} {σ : Sto} {e' : Env} {σ' : Sto}, evGOps ce os e σ = some (e', σ') → ∀ {K : Env → Sto → Prop}, K e' σ' → wpGOps cw [] os e σ K
  | [], e, σ, e', σ', h, K, hK => by
    obtain ⟨rfl, rfl⟩ := Prod.mk.inj (Option.some.inj h); exact hK
  | .op o :: os, e, σ, e', σ', h, K, hK => by
    simp only [evGOps] at h
    simp only [wpGOps]
    split at h
    · rename_i e1 σ1 h1
      exact evOps_sound hS _ h1 (K := fun e' σ' => wpGOps cw [] os e' σ' K) (evGOps_sound hS os h hK)
    · simp at h
  | .gh g :: os, e, σ, e', σ', h, K, hK => by
    simp only [evGOps] at h
    simp only [wpGOps]
    cases hg : ghostA g e σ with
    | none => rw [hg] at h; simp at h
    | some p =>
      obtain ⟨e1, σ1⟩ := p
      rw [hg] at h
      exact evGOps_sound hS os h hK

theorem evLoop_sound {body : Env → Sto → Post3 → Prop} {b : Env → Sto → Option (AExit × Env × Sto)} (hb : ∀ (e : Env) (σ : Sto) (x : AExit) (e' : Env) (σ' : Sto), b e σ = some (x, e', σ') → ∀ Q : Post3, Q x e' σ' → body e σ Q) :
    ∀ (n : Nat) {e : Env} {σ : Sto} {x : AExit} {e' : Env} {σ' : Sto}, evLoop b n e σ = some (x, e', σ') → ∀ {Q : Post3}, Q x e' σ' → loopA body n e σ Q
  | 0, _, _, _, _, _, h, _, _ => by simp [evLoop] at h
  | n + 1, e, σ, x, e', σ', h, Q, hQ => by
    simp only [evLoop] at h
    simp only [loopA]
    cases hbe : b e σ with
    | none => rw [hbe] at h; simp at h
    | some r =>
      obtain ⟨y, e1, σ1⟩ := r
      rw [hbe] at h
      refine hb _ _ _ _ _ hbe _ ?_
      cases y <;> simp only at h
      case normal => exact evLoop_sound hb n h hQ
      all_goals
        obtain ⟨rfl, k⟩ := Prod.mk.inj (Option.some.inj h)
        obtain ⟨rfl, rfl⟩ := Prod.mk.inj k
        exact hQ

theorem evCode_sound {cw : CallW} {ce : CallE} (hS : Snd cw ce) {n : Nat} : ∀ (c : ACode) {e : Env} {σ : Sto} {x : AExit} {e' : Env} {σ' : Sto}, evCode ce n c e σ = some (x, e', σ') → ∀ {Q : Post3}, Q x e' σ' → wpCode cw n [] c e σ Q := by
  have triple : ∀ {x y : AExit} {e e' : Env} {σ σ' : Sto}, some (x, e, σ) = some (y, e', σ') → x = y ∧ e = e' ∧ σ = σ' := by
    intro x y e e' σ σ' h
    have k := Option.some.inj h
    injection k with k1 k2
    injection k2 with k2 k3
    exact ⟨k1, k2, k3⟩
  intro c
  induction c with
  | skip => intro e σ x e' σ' h Q hQ; obtain ⟨rfl, rfl, rfl⟩ := triple h; exact hQ
  | region d ops =>
    intro e σ x e' σ' h Q hQ
    simp only [evCode] at h
    simp only [wpCode]
    split at h
    · rename_i e1 σ1 h1
      obtain ⟨rfl, rfl, rfl⟩ := triple h
      exact evOps_sound hS ops h1 hQ
    · simp at h
  | regionG ops =>
    intro e σ x e' σ' h Q hQ
    simp only [evCode] at h
    simp only [wpCode]
    split at h
    · rename_i e1 σ1 h1
      obtain ⟨rfl, rfl, rfl⟩ := triple h
      exact evGOps_sound hS ops h1 hQ
    · simp at h
  | seq a b iha ihb =>
    intro e σ x e' σ' h Q hQ
    simp only [evCode] at h
    simp only [wpCode]
    cases ha : evCode ce n a e σ with
    | none => rw [ha] at h; simp at h
    | some r =>
      obtain ⟨y, e1, σ1⟩ := r
      rw [ha] at h
      refine iha ha ?_
      cases y <;> simp only at h ⊢
      case normal => exact ihb h hQ
      case exit i => obtain ⟨rfl, rfl, rfl⟩ := triple h; exact hQ
      case ret => obtain ⟨rfl, rfl, rfl⟩ := triple h; exact hQ
  | cond c a b iha ihb =>
    intro e σ x e' σ' h Q hQ
    simp only [evCode] at h
    simp only [wpCode]
    cases hc : ev e c <;> rw [hc] at h <;> try (simp at h; done)
    rename_i t
    cases t <;> simp only at h ⊢
    · exact ihb h hQ
    · exact iha h hQ
  | block id b ih =>
    intro e σ x e' σ' h Q hQ
    simp only [evCode] at h
    simp only [wpCode]
    cases hb : evCode ce n b e σ with
    | none => rw [hb] at h; simp at h
    | some r =>
      obtain ⟨y, e1, σ1⟩ := r
      rw [hb] at h
      refine ih hb ?_
      cases y <;> simp only at h ⊢
      case normal => obtain ⟨rfl, rfl, rfl⟩ := triple h; exact hQ
      case exit i =>
        split at h
        · rename_i hi; obtain ⟨rfl, rfl, rfl⟩ := triple h; rw [if_pos hi]; exact hQ
        · rename_i hi; obtain ⟨rfl, rfl, rfl⟩ := triple h; rw [if_neg hi]; exact hQ
      case ret => obtain ⟨rfl, rfl, rfl⟩ := triple h; exact hQ
  | loop b ih =>
    intro e σ x e' σ' h Q hQ
    simp only [evCode] at h
    simp only [wpCode]
    exact evLoop_sound (body := wpCode cw n [] b) (fun _ _ _ _ _ h _ hq => ih h hq) n h hQ
  | scope b ih => intro e σ x e' σ' h Q hQ; simp only [evCode] at h; simp only [wpCode]; exact ih h hQ
  | exit id => intro e σ x e' σ' h Q hQ; obtain ⟨rfl, rfl, rfl⟩ := triple h; exact hQ
  | ret => intro e σ x e' σ' h Q hQ; obtain ⟨rfl, rfl, rfl⟩ := triple h; exact hQ
  | trunc b ih =>
    intro e σ x e' σ' h Q hQ
    simp only [evCode] at h
    simp only [wpCode]
    cases hb : evCode ce n b e σ with
    | none => rw [hb] at h; simp at h
    | some r =>
      obtain ⟨y, e1, σ1⟩ := r
      rw [hb] at h
      refine ih hb ?_
      cases y <;> simp only at h ⊢
      case ret => obtain ⟨rfl, rfl, rfl⟩ := triple h; exact hQ
      case normal =>
        split at h
        · rename_i hu; obtain ⟨rfl, rfl, rfl⟩ := triple h; exact ⟨hu, hQ⟩
        · simp at h
      case exit i =>
        split at h
        · rename_i hu; obtain ⟨rfl, rfl, rfl⟩ := triple h; exact ⟨hu, hQ⟩
        · simp at h
  | ghost g =>
    intro e σ x e' σ' h Q hQ
    simp only [evCode] at h
    simp only [wpCode]
    split at h
    · rename_i e1 σ1 h1
      obtain ⟨rfl, rfl, rfl⟩ := triple h
      split
      · rename_i h2; rw [h1] at h2; obtain ⟨rfl, rfl⟩ := Prod.mk.inj (Option.some.inj h2); exact hQ
      · rename_i h2; rw [h1] at h2; simp at h2
    · simp at h

theorem evCall_sound (T : FuncId → Option AFunc) : ∀ n, Snd (callW T n) (evCall T n)
  | 0 => fun _ _ _ _ _ _ h => by simp [evCall] at h
  | n + 1 => by
    have ih := evCall_sound T n
    have pair : ∀ {v v' : AVal} {σ σ' : Sto}, some (v, σ) = some (v', σ') → v = v' ∧ σ = σ' := fun h => Prod.mk.inj (Option.some.inj h)
    intro p f args σ v σ' h Q hQ
    cases p with
    | true =>
      simp only [evCall] at h
      simp only [callW]
      split at h
      case h_2 => simp at h
      rename_i as af h1 h2
      split at h
      case h_1 => simp at h
      case h_3 => simp at h
      rename_i x e1 σ1 hnx hc
      split at h
      case h_2 => simp at h
      rename_i u hu
      split at h
      case h_2 => simp at h
      rename_i u' hu'
      split at h
      case isFalse => simp at h
      rename_i hor
      obtain ⟨rfl, rfl⟩ := pair h
      simp only [h1, h2]
      refine evCode_sound ih _ hc ?_
      cases x with
      | exit i => exact (hnx i rfl).elim
      | normal => simp only [retA, hu, hu']; exact ⟨hor, hQ⟩
      | ret => simp only [retA, hu, hu']; exact ⟨hor, hQ⟩
    | false =>
      simp only [evCall] at h
      simp only [callW]
      split at h
      case h_2 => simp at h
      rename_i af h2
      split at h
      case h_1 => simp at h
      case h_3 => simp at h
      rename_i x e1 σ1 hnx hc
      split at h
      case h_2 => simp at h
      rename_i u hu
      obtain ⟨rfl, rfl⟩ := pair h
      simp only [h2]
      refine evCode_sound ih _ hc ?_
      cases x with
      | exit i => exact (hnx i rfl).elim
      | normal => simp only [retA, hu]; exact hQ
      | ret => simp only [retA, hu]; exact hQ

/-- the call answers 'true' -/
def saysTrue (T : FuncId → Option AFunc) (n : Nat) (f : FuncId) (args : List AVal) : Bool := match evCall T n true f args [] with
  | some (.bool true, _) => true
  | _ => false

theorem evCall_pure {T : FuncId → Option AFunc} {n : Nat} {f : FuncId} {args : List AVal} {σ σ' : Sto} {v : AVal} (h : evCall T n true f args σ = some (v, σ')) : σ' = σ := by
  cases n with
  | zero => simp [evCall] at h
  | succ n =>
    simp only [evCall] at h
    repeat' split at h
    all_goals first
      | (simp at h; done)
      | exact (Prod.mk.inj (Option.some.inj h)).2.symm

end Go.Abs
