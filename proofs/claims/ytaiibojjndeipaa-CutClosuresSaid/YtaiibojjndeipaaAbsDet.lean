/- The abstract machine goes one way. -/
import Derived.Test.YtaiibojjndeipaaAbsCore
set_option linter.all false
namespace Go.Abs
open Go

/-! ### It goes one way -/
def Det (cw : CallW) : Prop := ∀ (p : Bool) (f : FuncId) (args : List AVal) (lv : List Nat) (σ : Sto) (Q : Post), cw p f args lv σ Q → ∃ v σ', Q v σ' ∧ ∀ {Q' : Post}, Q' v σ' → cw p f args lv σ Q'

theorem wpOper_det {cw : CallW} (hD : Det cw) {lv : List Nat} {o : AOper} {e : Env} {σ : Sto} {K : Env → Sto → Prop} (h : wpOper cw lv o e σ K) : ∃ e' σ', K e' σ' ∧ ∀ {K' : Env → Sto → Prop}, K' e' σ' → wpOper cw lv o e σ K' := by
  unfold wpOper at h ⊢
  split at h
  · obtain ⟨v, σ', h1, h2⟩ := hD _ _ _ _ _ _ h
    exact ⟨_, _, h1, fun hk => h2 hk⟩
  · split at h
    · obtain ⟨v, σ', h1, h2⟩ := hD _ _ _ _ _ _ h
      exact ⟨_, _, h1, fun hk => h2 hk⟩
    · exact h.elim
  · split at h
    · exact ⟨_, _, h, fun hk => hk⟩
    · exact h.elim

theorem wpOps_det {cw : CallW} (hD : Det cw) {lv : List Nat} : ∀ (os : List AOper) {e : Env} {σ : Sto} {K : Env → Sto → Prop}, wpOpsA cw lv os e σ K → ∃ e' σ', K e' σ' ∧ ∀ {K' : Env → Sto → Prop}, K' e' σ' → wpOpsA cw lv os e σ K'
  | [], e, σ, K, h => ⟨e, σ, h, fun hk => hk⟩
  | o :: os, e, σ, K, h => by
    simp only [wpOpsA] at h ⊢
    split at h
    · obtain ⟨e1, σ1, h1, h2⟩ := wpOper_det hD h
      obtain ⟨e2, σ2, h3, h4⟩ := wpOps_det hD os h1
      exact ⟨e2, σ2, h3, fun hk => h2 (h4 hk)⟩
    · exact wpOps_det hD os h
    · exact h.elim

theorem wpGOps_det {cw : CallW} (hD : Det cw) {lv : List Nat} : ∀ (os : List GOp) {e : Env} {σ : Sto} {K : Env → Sto → Prop}, wpGOps cw lv os e σ K → ∃ e' σ', K e' σ' ∧ ∀ {K' : Env → Sto → Prop}, K' e' σ' → wpGOps cw lv os e σ K'
  | [], e, σ, K, h => ⟨e, σ, h, fun hk => hk⟩
  | .op o :: os, e, σ, K, h => by
    simp only [wpGOps] at h ⊢
    obtain ⟨e1, σ1, h1, h2⟩ := wpOps_det hD _ h
    obtain ⟨e2, σ2, h3, h4⟩ := wpGOps_det hD os h1
    exact ⟨e2, σ2, h3, fun hk => h2 (h4 hk)⟩
  | .gh g :: os, e, σ, K, h => by
    simp only [wpGOps] at h ⊢
    split at h
    · exact wpGOps_det hD os h
    · exact h.elim

theorem loop_det {body : Env → Sto → Post3 → Prop} (hb : ∀ (e : Env) (σ : Sto) (Q : Post3), body e σ Q → ∃ x e' σ', Q x e' σ' ∧ ∀ {Q' : Post3}, Q' x e' σ' → body e σ Q') : ∀ (n : Nat) {e : Env} {σ : Sto} {Q : Post3},
    loopA body n e σ Q → ∃ x e' σ', Q x e' σ' ∧ ∀ {Q' : Post3}, Q' x e' σ' → loopA body n e σ Q'
  | 0, e, σ, Q, h => h.elim
  | n + 1, e, σ, Q, h => by
    simp only [loopA] at h ⊢
    obtain ⟨x, e1, σ1, h1, h2⟩ := hb _ _ _ h
    cases x with
    | normal =>
      obtain ⟨x, e2, σ2, h3, h4⟩ := loop_det hb n h1
      exact ⟨x, e2, σ2, h3, fun hk => h2 (h4 hk)⟩
    | exit i => exact ⟨_, _, _, h1, fun hk => h2 hk⟩
    | ret => exact ⟨_, _, _, h1, fun hk => h2 hk⟩

theorem code_det {cw : CallW} (hD : Det cw) {n : Nat} : ∀ (c : ACode) {lv : List Nat} {e : Env} {σ : Sto} {Q : Post3}, wpCode cw n lv c e σ Q → ∃ x e' σ', Q x e' σ' ∧ ∀ {Q' : Post3}, Q' x e' σ' → wpCode cw n lv c e σ Q' := by
  intro c
  induction c with
  | skip => intro lv e σ Q h; exact ⟨_, _, _, h, fun hk => hk⟩
  | region d ops =>
    intro lv e σ Q h
    simp only [wpCode] at h ⊢
    obtain ⟨e', σ', h1, h2⟩ := wpOps_det hD ops h
    exact ⟨_, _, _, h1, fun hk => h2 hk⟩
  | regionG ops =>
    intro lv e σ Q h
    simp only [wpCode] at h ⊢
    obtain ⟨e', σ', h1, h2⟩ := wpGOps_det hD ops h
    exact ⟨_, _, _, h1, fun hk => h2 hk⟩
  | seq a b iha ihb =>
    intro lv e σ Q h
    simp only [wpCode] at h ⊢
    obtain ⟨x, e1, σ1, h1, h2⟩ := iha h
    cases x with
    | normal =>
      obtain ⟨x, e2, σ2, h3, h4⟩ := ihb h1
      exact ⟨x, e2, σ2, h3, fun hk => h2 (h4 hk)⟩
    | exit i => exact ⟨_, _, _, h1, fun hk => h2 hk⟩
    | ret => exact ⟨_, _, _, h1, fun hk => h2 hk⟩
  | cond c a b iha ihb =>
    intro lv e σ Q h
    simp only [wpCode] at h ⊢
    split at h
    · rename_i t ht
      cases t
      · simp only [Bool.false_eq_true, if_false] at h ⊢; exact ihb h
      · simp only [if_true] at h ⊢; exact iha h
    · exact h.elim
  | block id b ih =>
    intro lv e σ Q h
    simp only [wpCode] at h ⊢
    obtain ⟨x, e1, σ1, h1, h2⟩ := ih h
    cases x with
    | normal => exact ⟨_, _, _, h1, fun hk => h2 hk⟩
    | exit i =>
      simp only at h1
      split at h1
      · rename_i hi; exact ⟨_, _, _, h1, fun hk => h2 (by simp only [if_pos hi]; exact hk)⟩
      · rename_i hi; exact ⟨_, _, _, h1, fun hk => h2 (by simp only [if_neg hi]; exact hk)⟩
    | ret => exact ⟨_, _, _, h1, fun hk => h2 hk⟩
  | loop b ih =>
    intro lv e σ Q h
    simp only [wpCode] at h ⊢
    exact loop_det (fun _ _ _ h => ih h) n h
  | exit id => intro lv e σ Q h; exact ⟨_, _, _, h, fun hk => hk⟩
  | ret => intro lv e σ Q h; exact ⟨_, _, _, h, fun hk => hk⟩
  | trunc b ih =>
    intro lv e σ Q h
    simp only [wpCode] at h ⊢
    obtain ⟨x, e1, σ1, h1, h2⟩ := ih h
    cases x with
    | normal => exact ⟨_, _, _, h1.2, fun hk => h2 ⟨h1.1, hk⟩⟩
    | exit i => exact ⟨_, _, _, h1.2, fun hk => h2 ⟨h1.1, hk⟩⟩
    | ret => exact ⟨_, _, _, h1, fun hk => h2 hk⟩
  | scope b ih =>
    intro lv e σ Q h
    simp only [wpCode] at h ⊢
    exact ih h
  | ghost g =>
    intro lv e σ Q h
    simp only [wpCode] at h ⊢
    split at h
    · exact ⟨_, _, _, h, fun hk => hk⟩
    · exact h.elim

theorem ret_det {af : AFunc} {x : AExit} {e : Env} {σ : Sto} {Q : Post} (h : retA af x e σ Q) : ∃ v, Q v σ ∧ ∀ {Q' : Post}, Q' v σ → retA af x e σ Q' := by
  unfold retA at h ⊢
  cases x <;> simp only at h ⊢
  · split at h
    · exact ⟨_, h, fun hk => hk⟩
    · exact h.elim
  · split at h
    · exact ⟨_, h, fun hk => hk⟩
    · exact h.elim

theorem callW_det (T : FuncId → Option AFunc) : ∀ n, Det (callW T n)
  | 0 => fun _ _ _ _ _ _ h => by simp [callW] at h
  | n + 1 => by
    intro p f args lv σ Q h
    cases p with
    | true =>
      simp only [callW] at h ⊢
      split at h
      · obtain ⟨x, e, σ', h1, h2⟩ := code_det (callW_det T n) _ h
        obtain ⟨v, h3, h4⟩ := ret_det h1
        split at h3
        · rename_i v' hv'
          exact ⟨v', σ, h3.2, fun {Q'} hk => h2 (h4 (by simp only [hv']; exact ⟨h3.1, hk⟩))⟩
        · exact h3.elim
      · exact h.elim
    | false =>
      simp only [callW] at h ⊢
      split at h
      · obtain ⟨x, e, σ', h1, h2⟩ := code_det (callW_det T n) _ h
        obtain ⟨v, h3, h4⟩ := ret_det h1
        exact ⟨v, σ', h3, fun hk => h2 (h4 hk)⟩
      · exact h.elim

end Go.Abs
