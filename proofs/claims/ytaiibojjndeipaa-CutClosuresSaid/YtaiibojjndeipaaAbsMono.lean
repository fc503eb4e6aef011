/- More fuel tells the same. -/
import Derived.Test.YtaiibojjndeipaaAbsDet
set_option linter.all false
namespace Go.Abs
open Go

def Sub (cw cw' : CallW) : Prop := ∀ (p : Bool) (f : FuncId) (args : List AVal) (lv : List Nat) (σ : Sto) (Q Q' : Post), (∀ v σ', Q v σ' → Q' v σ') → cw p f args lv σ Q → cw' p f args lv σ Q'

theorem oper_mono {cw cw' : CallW} (hS : Sub cw cw') {lv : List Nat} {o : AOper} {e : Env} {σ : Sto} {K K' : Env → Sto → Prop} (hK : ∀ e σ, K e σ → K' e σ) (h : wpOper cw lv o e σ K) : wpOper cw' lv o e σ K' := by
  unfold wpOper at h ⊢
  split at h
  · exact hS _ _ _ _ _ _ _ (fun v σ' hq => hK _ _ hq) h
  · split at h
    · exact hS _ _ _ _ _ _ _ (fun v σ' hq => hK _ _ hq) h
    · exact h.elim
  · split at h
    · exact hK _ _ h
    · exact h.elim

theorem ops_mono {cw cw' : CallW} (hS : Sub cw cw') {lv : List Nat} : ∀ (os : List AOper) {e : Env} {σ : Sto} {K K' : Env → Sto → Prop}, (∀ e σ, K e σ → K' e σ) → wpOpsA cw lv os e σ K → wpOpsA cw' lv os e σ K'
  | [], _, _, _, _, hK, h => hK _ _ h
  | o :: os, e, σ, K, K', hK, h => by
    simp only [wpOpsA] at h ⊢
    split at h
    · exact oper_mono hS (fun e σ h => ops_mono hS os hK h) h
    · exact ops_mono hS os hK h
    · exact h.elim

theorem gops_mono {cw cw' : CallW} (hS : Sub cw cw') {lv : List Nat} : ∀ (os : List GOp) {e : Env} {σ : Sto} {K K' : Env → Sto → Prop}, (∀ e σ, K e σ → K' e σ) → wpGOps cw lv os e σ K → wpGOps cw' lv os e σ K'
  | [], _, _, _, _, hK, h => hK _ _ h
  | .op o :: os, e, σ, K, K', hK, h => by
    simp only [wpGOps] at h ⊢
    exact ops_mono hS _ (fun e σ h => gops_mono hS os hK h) h
  | .gh g :: os, e, σ, K, K', hK, h => by
    simp only [wpGOps] at h ⊢
    split at h
    · exact gops_mono hS os hK h
    · exact h.elim

theorem loop_mono {b b' : Env → Sto → Post3 → Prop} (hb : ∀ (e : Env) (σ : Sto) (Q Q' : Post3), (∀ x e σ, Q x e σ → Q' x e σ) → b e σ Q → b' e σ Q') : ∀ {n m : Nat}, n ≤ m → ∀ {e : Env} {σ : Sto} {Q Q' : Post3}, (∀ x e σ, Q x e σ → Q' x e σ) → loopA b n e σ Q → loopA b' m e σ Q'
  | 0, _, _, _, _, _, _, _, h => h.elim
  | n + 1, 0, hnm, _, _, _, _, _, _ => by omega
  | n + 1, m + 1, hnm, e, σ, Q, Q', hQ, h => by
    simp only [loopA] at h ⊢
    refine hb _ _ _ _ (fun x e' σ' h => ?_) h
    cases x with
    | normal => exact loop_mono hb (Nat.le_of_succ_le_succ hnm) hQ h
    | exit i => exact hQ _ _ _ h
    | ret => exact hQ _ _ _ h

theorem code_mono {cw cw' : CallW} (hS : Sub cw cw') {n m : Nat} (hnm : n ≤ m) : ∀ (c : ACode) {lv : List Nat} {e : Env} {σ : Sto} {Q Q' : Post3}, (∀ x e σ, Q x e σ → Q' x e σ) → wpCode cw n lv c e σ Q → wpCode cw' m lv c e σ Q' := by
  intro c
  induction c with
  | skip => intro lv e σ Q Q' hQ h; exact hQ _ _ _ h
  | region d ops => intro lv e σ Q Q' hQ h; simp only [wpCode] at h ⊢; exact ops_mono hS ops (fun e σ h => hQ _ _ _ h) h
  | regionG ops => intro lv e σ Q Q' hQ h; simp only [wpCode] at h ⊢; exact gops_mono hS ops (fun e σ h => hQ _ _ _ h) h
  | seq a b iha ihb =>
    intro lv e σ Q Q' hQ h
    simp only [wpCode] at h ⊢
    refine iha (fun x e' σ' h => ?_) h
    cases x with
    | normal => exact ihb hQ h
    | exit i => exact hQ _ _ _ h
    | ret => exact hQ _ _ _ h
  | cond c a b iha ihb =>
    intro lv e σ Q Q' hQ h
    simp only [wpCode] at h ⊢
    split at h
    · rename_i t _
      cases t
      · simp only [Bool.false_eq_true, if_false] at h ⊢; exact ihb hQ h
      · simp only [if_true] at h ⊢; exact iha hQ h
    · exact h.elim
  | block id b ih =>
    intro lv e σ Q Q' hQ h
    simp only [wpCode] at h ⊢
    refine ih (fun x e' σ' h => ?_) h
    cases x with
    | normal => exact hQ _ _ _ h
    | exit i =>
      simp only at h ⊢
      split at h
      · rename_i hi; rw [if_pos hi]; exact hQ _ _ _ h
      · rename_i hi; rw [if_neg hi]; exact hQ _ _ _ h
    | ret => exact hQ _ _ _ h
  | loop b ih => intro lv e σ Q Q' hQ h; simp only [wpCode] at h ⊢; exact loop_mono (b := wpCode cw n lv b) (b' := wpCode cw' m lv b) (fun _ _ _ _ hq h => ih hq h) hnm hQ h
  | exit id => intro lv e σ Q Q' hQ h; exact hQ _ _ _ h
  | ret => intro lv e σ Q Q' hQ h; exact hQ _ _ _ h
  | trunc b ih =>
    intro lv e σ Q Q' hQ h
    simp only [wpCode] at h ⊢
    refine ih (fun x e' σ' h => ?_) h
    cases x with
    | normal => exact ⟨h.1, hQ _ _ _ h.2⟩
    | exit i => exact ⟨h.1, hQ _ _ _ h.2⟩
    | ret => exact hQ _ _ _ h
  | scope b ih => intro lv e σ Q Q' hQ h; simp only [wpCode] at h ⊢; exact ih hQ h
  | ghost g =>
    intro lv e σ Q Q' hQ h
    simp only [wpCode] at h ⊢
    split at h
    · exact hQ _ _ _ h
    · exact h.elim

theorem ret_mono {af : AFunc} {x : AExit} {e : Env} {σ : Sto} {Q Q' : Post} (hQ : ∀ v σ, Q v σ → Q' v σ) (h : retA af x e σ Q) : retA af x e σ Q' := by
  unfold retA at h ⊢
  cases x <;> simp only at h ⊢
  · split at h
    · exact hQ _ _ h
    · exact h.elim
  · split at h
    · exact hQ _ _ h
    · exact h.elim

theorem callW_sub (T : FuncId → Option AFunc) : ∀ {n m : Nat}, n ≤ m → Sub (callW T n) (callW T m)
  | 0, _, _ => fun _ _ _ _ _ _ _ _ h => by simp [callW] at h
  | n + 1, 0, h => by omega
  | n + 1, m + 1, hnm => by
    have ih := callW_sub T (Nat.le_of_succ_le_succ hnm)
    intro p f args lv σ Q Q' hQ h
    cases p with
    | true =>
      simp only [callW] at h ⊢
      split at h
      · refine code_mono ih (Nat.le_of_succ_le_succ hnm) _ (fun x e σ' h => ret_mono (fun v σ'' h => ?_) h) h
        split at h
        · exact ⟨h.1, hQ _ _ h.2⟩
        · exact h.elim
      · exact h.elim
    | false =>
      simp only [callW] at h ⊢
      split at h
      · exact code_mono ih (Nat.le_of_succ_le_succ hnm) _ (fun x e σ' h => ret_mono hQ h) h
      · exact h.elim

end Go.Abs
