/- A stack machine over the abstract machine: no fuel, one equation for each step. -/
import Derived.Test.YtaiibojjndeipaaAbsMono
set_option linter.all false
namespace Go.Abs
open Go

/-! ### Two runs agree -/
def Conj (cw : CallW) : Prop := ∀ (p : Bool) (f : FuncId) (args : List AVal) (lv : List Nat) (σ : Sto) (Q Q' : Post), cw p f args lv σ Q → cw p f args lv σ Q' → cw p f args lv σ fun v σ => Q v σ ∧ Q' v σ

theorem oper_conj {cw : CallW} (hC : Conj cw) {lv : List Nat} {o : AOper} {e : Env} {σ : Sto} {K K' : Env → Sto → Prop} (h : wpOper cw lv o e σ K) (h' : wpOper cw lv o e σ K') : wpOper cw lv o e σ fun e σ => K e σ ∧ K' e σ := by
  revert h h'
  unfold wpOper
  split
  · exact fun h h' => hC _ _ _ _ _ _ _ h h'
  · split
    · exact fun h h' => hC _ _ _ _ _ _ _ h h'
    · exact fun h => h.elim
  · split
    · exact fun h h' => ⟨h, h'⟩
    · exact fun h => h.elim

theorem ops_conj {cw : CallW} (hC : Conj cw) (hS : Sub cw cw) {lv : List Nat} : ∀ (os : List AOper) {e : Env} {σ : Sto} {K K' : Env → Sto → Prop}, wpOpsA cw lv os e σ K → wpOpsA cw lv os e σ K' → wpOpsA cw lv os e σ fun e σ => K e σ ∧ K' e σ
  | [], _, _, _, _, h, h' => ⟨h, h'⟩
  | o :: os, e, σ, K, K', h, h' => by
    revert h h'
    simp only [wpOpsA]
    split
    · exact fun h h' => oper_mono hS (fun e σ h => ops_conj hC hS os h.1 h.2) (oper_conj hC h h')
    · exact fun h h' => ops_conj hC hS os h h'
    · exact fun h => h.elim

theorem gops_conj {cw : CallW} (hC : Conj cw) (hS : Sub cw cw) {lv : List Nat} : ∀ (os : List GOp) {e : Env} {σ : Sto} {K K' : Env → Sto → Prop}, wpGOps cw lv os e σ K → wpGOps cw lv os e σ K' → wpGOps cw lv os e σ fun e σ => K e σ ∧ K' e σ
  | [], _, _, _, _, h, h' => ⟨h, h'⟩
  | .op o :: os, e, σ, K, K', h, h' => by
    simp only [wpGOps] at h h' ⊢
    exact ops_mono hS _ (fun e σ h => gops_conj hC hS os h.1 h.2) (ops_conj hC hS _ h h')
  | .gh g :: os, e, σ, K, K', h, h' => by
    revert h h'
    simp only [wpGOps]
    split
    · exact fun h h' => gops_conj hC hS os h h'
    · exact fun h => h.elim

theorem loop_conj {b : Env → Sto → Post3 → Prop} (hm : ∀ (e : Env) (σ : Sto) (Q Q' : Post3), (∀ x e σ, Q x e σ → Q' x e σ) → b e σ Q → b e σ Q') (hb : ∀ (e : Env) (σ : Sto) (Q Q' : Post3), b e σ Q → b e σ Q' → b e σ fun x e σ => Q x e σ ∧ Q' x e σ) :
    ∀ {n : Nat} {e : Env} {σ : Sto} {Q Q' : Post3}, loopA b n e σ Q → loopA b n e σ Q' → loopA b n e σ fun x e σ => Q x e σ ∧ Q' x e σ
  | 0, _, _, _, _, h, _ => h.elim
  | n + 1, e, σ, Q, Q', h, h' => by
    simp only [loopA] at h h' ⊢
    refine hm _ _ _ _ (fun x e' σ' h => ?_) (hb _ _ _ _ h h')
    cases x with
    | normal => exact loop_conj hm hb h.1 h.2
    | exit i => exact h
    | ret => exact h

theorem code_conj {cw : CallW} (hC : Conj cw) (hS : Sub cw cw) {n : Nat} : ∀ (c : ACode) {lv : List Nat} {e : Env} {σ : Sto} {Q Q' : Post3}, wpCode cw n lv c e σ Q → wpCode cw n lv c e σ Q' → wpCode cw n lv c e σ fun x e σ => Q x e σ ∧ Q' x e σ := by
  intro c
  induction c with
  | skip => intro lv e σ Q Q' h h'; exact ⟨h, h'⟩
  | region d ops => intro lv e σ Q Q' h h'; simp only [wpCode] at h h' ⊢; exact ops_conj hC hS ops h h'
  | regionG ops => intro lv e σ Q Q' h h'; simp only [wpCode] at h h' ⊢; exact gops_conj hC hS ops h h'
  | seq a b iha ihb =>
    intro lv e σ Q Q' h h'
    simp only [wpCode] at h h' ⊢
    refine code_mono hS (Nat.le_refl n) a (fun x e' σ' h => ?_) (iha h h')
    cases x with
    | normal => exact ihb h.1 h.2
    | exit i => exact h
    | ret => exact h
  | cond c a b iha ihb =>
    intro lv e σ Q Q' h h'
    simp only [wpCode] at h h' ⊢
    split at h
    · rename_i t ht
      rw [ht] at h'
      cases t
      · simp only [Bool.false_eq_true, if_false] at h h' ⊢; exact ihb h h'
      · simp only [if_true] at h h' ⊢; exact iha h h'
    · exact h.elim
  | block id b ih =>
    intro lv e σ Q Q' h h'
    simp only [wpCode] at h h' ⊢
    refine code_mono hS (Nat.le_refl n) b (fun x e' σ' h => ?_) (ih h h')
    cases x with
    | normal => exact h
    | exit i =>
      simp only at h ⊢
      split
      · rename_i hi; rw [if_pos hi, if_pos hi] at h; exact h
      · rename_i hi; rw [if_neg hi, if_neg hi] at h; exact h
    | ret => exact h
  | loop b ih =>
    intro lv e σ Q Q' h h'
    simp only [wpCode] at h h' ⊢
    exact loop_conj (b := wpCode cw n lv b) (fun _ _ _ _ hq h => code_mono hS (Nat.le_refl n) b hq h) (fun _ _ _ _ h h' => ih h h') h h'
  | exit id => intro lv e σ Q Q' h h'; exact ⟨h, h'⟩
  | ret => intro lv e σ Q Q' h h'; exact ⟨h, h'⟩
  | trunc b ih =>
    intro lv e σ Q Q' h h'
    simp only [wpCode] at h h' ⊢
    refine code_mono hS (Nat.le_refl n) b (fun x e' σ' h => ?_) (ih h h')
    cases x with
    | normal => exact ⟨h.1.1, h.1.2, h.2.2⟩
    | exit i => exact ⟨h.1.1, h.1.2, h.2.2⟩
    | ret => exact h
  | scope b ih => intro lv e σ Q Q' h h'; simp only [wpCode] at h h' ⊢; exact ih h h'
  | ghost g =>
    intro lv e σ Q Q' h h'
    simp only [wpCode] at h h' ⊢
    split at h
    · rename_i hg; rw [hg] at h'; exact ⟨h, h'⟩
    · exact h.elim

theorem ret_conj {af : AFunc} {x : AExit} {e : Env} {σ : Sto} {Q Q' : Post} (h : retA af x e σ Q) (h' : retA af x e σ Q') : retA af x e σ fun v σ => Q v σ ∧ Q' v σ := by
  unfold retA at h h' ⊢
  cases x <;> simp only at h h' ⊢
  · split at h
    · rename_i hr; rw [hr] at h'; exact ⟨h, h'⟩
    · exact h.elim
  · split at h
    · rename_i hr; rw [hr] at h'; exact ⟨h, h'⟩
    · exact h.elim

theorem callW_conj (T : FuncId → Option AFunc) : ∀ n, Conj (callW T n)
  | 0 => fun _ _ _ _ _ _ _ h _ => by simp [callW] at h
  | n + 1 => by
    have ih := callW_conj T n
    have hS := callW_sub T (Nat.le_refl n)
    intro p f args lv σ Q Q' h h'
    cases p with
    | true =>
      simp only [callW] at h h' ⊢
      split at h
      · rename_i h1 h2
        rw [h1, h2] at h'
        refine code_mono hS (Nat.le_refl n) _ (fun x e σ' h => ret_mono (fun v σ'' h => ?_) (ret_conj h.1 h.2)) (code_conj ih hS _ h h')
        obtain ⟨a, b⟩ := h
        split at a
        · rename_i hv; rw [hv] at b; exact ⟨a.1, a.2, b.2⟩
        · exact a.elim
      · exact h.elim
    | false =>
      simp only [callW] at h h' ⊢
      split at h
      · rename_i h1
        rw [h1] at h'
        exact code_mono hS (Nat.le_refl n) _ (fun x e σ' h => ret_conj h.1 h.2) (code_conj ih hS _ h h')
      · exact h.elim

inductive Item where
  | code (c : ACode)
  | ops (os : List AOper)
  | gops (os : List GOp)
  | inBlock (id : Nat)
  | inLoop (b : ACode)
  | inTrunc (m : Nat)

def resume (cw : CallW) (n : Nat) (Q : Post3) : List Item → Post3
  | [], x, e, σ => Q x e σ
  | .code c :: k, .normal, e, σ => wpCode cw n [] c e σ (resume cw n Q k)
  | .ops os :: k, .normal, e, σ => wpOpsA cw [] os e σ (resume cw n Q k .normal)
  | .gops os :: k, .normal, e, σ => wpGOps cw [] os e σ (resume cw n Q k .normal)
  | .inLoop b :: k, .normal, e, σ => loopA (wpCode cw n [] b) n e σ (resume cw n Q k)
  | .inTrunc m :: k, .normal, e, σ => (σ.take m).all (AObj.under m) = true ∧ resume cw n Q k .normal (sanitize m e) (σ.take m)
  | .inTrunc m :: k, .exit i, e, σ => (σ.take m).all (AObj.under m) = true ∧ resume cw n Q k (.exit i) (sanitize m e) (σ.take m)
  | .inBlock id :: k, .exit i, e, σ => if i = id then resume cw n Q k .normal e σ else resume cw n Q k (.exit i) e σ
  | _ :: k, x, e, σ => resume cw n Q k x e σ

theorem resume_mono {cw cw' : CallW} (hS : Sub cw cw') {n m : Nat} (hnm : n ≤ m) {Q Q' : Post3} (hQ : ∀ x e σ, Q x e σ → Q' x e σ) : ∀ (k : List Item) (x : AExit) (e : Env) (σ : Sto), resume cw n Q k x e σ → resume cw' m Q' k x e σ
  | [], x, e, σ, h => hQ _ _ _ h
  | i :: k, x, e, σ, h => by
    have ih := resume_mono hS hnm hQ k
    cases i <;> cases x <;> simp only [resume] at h ⊢
    all_goals first
      | exact ih _ _ _ h
      | exact ⟨h.1, ih _ _ _ h.2⟩
      | exact code_mono hS hnm _ ih h
      | exact ops_mono hS _ (ih _) h
      | exact gops_mono hS _ (ih _) h
      | skip
    case inLoop.normal b => exact loop_mono (b := wpCode cw n [] b) (b' := wpCode cw' m [] b) (fun _ _ _ _ hq h => code_mono hS hnm _ hq h) hnm ih h
    case inBlock.exit =>
      split at h
      · rename_i hi; rw [if_pos hi]; exact ih _ _ _ h
      · rename_i hi; rw [if_neg hi]; exact ih _ _ _ h

/-- what a function's call comes to, with fuel enough -/
def Cw (T : FuncId → Option AFunc) : CallW := fun p f args lv σ Q => ∃ n, callW T n p f args lv σ Q

def RunX (T : FuncId → Option AFunc) (Q : Post3) (x : AExit) (k : List Item) (e : Env) (σ : Sto) : Prop := ∃ n, resume (callW T n) n Q k x e σ
abbrev Run (T : FuncId → Option AFunc) (Q : Post3) (k : List Item) (e : Env) (σ : Sto) : Prop := RunX T Q .normal k e σ

section
variable {T : FuncId → Option AFunc} {Q : Post3} {k : List Item} {e : Env} {σ : Sto}

theorem Cw.mono {p : Bool} {f : FuncId} {args : List AVal} {lv : List Nat} {R R' : Post} (h : Cw T p f args lv σ R) (hR : ∀ v σ', R v σ' → R' v σ') : Cw T p f args lv σ R' :=
  let ⟨n, h⟩ := h; ⟨n, callW_sub T (Nat.le_refl n) _ _ _ _ _ _ _ hR h⟩

theorem Cw.det {p : Bool} {f : FuncId} {args : List AVal} {lv : List Nat} {R : Post} (h : Cw T p f args lv σ R) : ∃ v σ', R v σ' ∧ ∀ {R' : Post}, R' v σ' → Cw T p f args lv σ R' :=
  let ⟨n, h⟩ := h
  let ⟨v, σ', h1, h2⟩ := callW_det T n _ _ _ _ _ _ h
  ⟨v, σ', h1, fun hr => ⟨n, h2 hr⟩⟩

theorem Cw.both {p : Bool} {f : FuncId} {args : List AVal} {lv : List Nat} {R R' : Post} (h : Cw T p f args lv σ R) (h' : Cw T p f args lv σ R') : ∃ v σ', R v σ' ∧ R' v σ' := by
  obtain ⟨n, h⟩ := h
  obtain ⟨m, h'⟩ := h'
  have a := callW_sub T (Nat.le_max_left n m) _ _ _ _ _ _ R (fun _ _ h => h) h
  have b := callW_sub T (Nat.le_max_right n m) _ _ _ _ _ _ R' (fun _ _ h => h) h'
  obtain ⟨v, σ', h1, _⟩ := callW_det T _ _ _ _ _ _ _ (callW_conj T _ _ _ _ _ _ _ _ a b)
  exact ⟨v, σ', h1⟩

theorem Cw.iff_of {p : Bool} {f : FuncId} {args : List AVal} {lv : List Nat} {v : AVal} {σ' : Sto} (h : ∀ R : Post, R v σ' → Cw T p f args lv σ R) {R : Post} : Cw T p f args lv σ R ↔ R v σ' := by
  refine ⟨fun hc => ?_, h R⟩
  obtain ⟨u, τ, h1, rfl, rfl⟩ := hc.both (h (fun u τ => u = v ∧ τ = σ') ⟨rfl, rfl⟩)
  exact h1

/-! ### One equation for each step -/
theorem RunX.mono {Q' : Post3} {x : AExit} (h : RunX T Q x k e σ) (hQ : ∀ x e σ, Q x e σ → Q' x e σ) : RunX T Q' x k e σ :=
  let ⟨n, h⟩ := h; ⟨n, resume_mono (callW_sub T (Nat.le_refl n)) (Nat.le_refl n) hQ _ _ _ _ h⟩

theorem run_nil {x : AExit} : RunX T Q x [] e σ ↔ Q x e σ := ⟨fun ⟨_, h⟩ => h, fun h => ⟨0, h⟩⟩

theorem run_skip : Run T Q (.code .skip :: k) e σ ↔ Run T Q k e σ := Iff.rfl
theorem run_region {d : Bool} {os : List AOper} : Run T Q (.code (.region d os) :: k) e σ ↔ Run T Q (.ops os :: k) e σ := Iff.rfl

theorem run_regionG {os : List GOp} : Run T Q (.code (.regionG os) :: k) e σ ↔ Run T Q (.gops os :: k) e σ := Iff.rfl
theorem gops_nil : Run T Q (.gops [] :: k) e σ ↔ Run T Q k e σ := Iff.rfl
theorem gops_op {o : AOper} {os : List GOp} : Run T Q (.gops (.op o :: os) :: k) e σ ↔ Run T Q (.ops [o] :: .gops os :: k) e σ := Iff.rfl
theorem gops_gh {g : Ghost} {os : List GOp} : Run T Q (.gops (.gh g :: os) :: k) e σ ↔ Run T Q (.code (.ghost g) :: .gops os :: k) e σ := by
  refine exists_congr fun n => ?_
  simp only [resume, wpCode, wpGOps]
theorem run_seq {a b : ACode} : Run T Q (.code (.seq a b) :: k) e σ ↔ Run T Q (.code a :: .code b :: k) e σ := by
  refine exists_congr fun n => ?_
  simp only [resume, wpCode]
  refine iff_of_eq (congrArg (wpCode (callW T n) n [] a e σ) ?_)
  funext x e' σ'
  cases x <;> simp only [resume]

theorem run_cond {c : Opd} {a b : ACode} : Run T Q (.code (.cond c a b) :: k) e σ ↔ match ev e c with
    | .bool t => if t = true then Run T Q (.code a :: k) e σ else Run T Q (.code b :: k) e σ
    | _ => False := by
  simp only [RunX, resume, wpCode]
  cases hc : ev e c <;> try (simp; done)
  rename_i t
  cases t <;> simp

theorem run_block {id : Nat} {b : ACode} : Run T Q (.code (.block id b) :: k) e σ ↔ Run T Q (.code b :: .inBlock id :: k) e σ := by
  refine exists_congr fun n => ?_
  simp only [resume, wpCode]
  refine iff_of_eq (congrArg (wpCode (callW T n) n [] b e σ) ?_)
  funext x e' σ'
  cases x <;> simp only [resume]

theorem run_loop {b : ACode} : Run T Q (.code (.loop b) :: k) e σ ↔ Run T Q (.inLoop b :: k) e σ := Iff.rfl

theorem run_round {b : ACode} : Run T Q (.inLoop b :: k) e σ ↔ Run T Q (.code b :: .inLoop b :: k) e σ := by
  constructor
  · rintro ⟨n, h⟩
    cases n with
    | zero => exact h.elim
    | succ n =>
      refine ⟨n + 1, ?_⟩
      simp only [resume, loopA] at h ⊢
      refine code_mono (callW_sub T (Nat.le_refl _)) (Nat.le_refl _) b (fun x e' σ' h => ?_) h
      cases x with
      | normal => exact loop_mono (b := wpCode (callW T (n + 1)) (n + 1) [] b) (fun _ _ _ _ hq h => code_mono (callW_sub T (Nat.le_refl _)) (Nat.le_refl _) b hq h) (Nat.le_succ n) (fun _ _ _ h => h) h
      | exit i => exact h
      | ret => exact h
  · rintro ⟨n, h⟩
    refine ⟨n + 1, ?_⟩
    simp only [resume, loopA] at h ⊢
    refine code_mono (callW_sub T (Nat.le_succ n)) (Nat.le_succ n) b (fun x e' σ' h => ?_) h
    have hr := resume_mono (callW_sub T (Nat.le_succ n)) (Nat.le_succ n) (fun _ _ _ h => h) k (Q := Q) (Q' := Q)
    cases x with
    | normal => exact loop_mono (b := wpCode (callW T n) n [] b) (b' := wpCode (callW T (n + 1)) (n + 1) [] b) (fun _ _ _ _ hq h => code_mono (callW_sub T (Nat.le_succ n)) (Nat.le_succ n) b hq h) (Nat.le_refl n) hr h
    | exit i => exact hr _ _ _ h
    | ret => exact hr _ _ _ h

theorem run_trunc {b : ACode} : Run T Q (.code (.trunc b) :: k) e σ ↔ Run T Q (.code b :: .inTrunc σ.length :: k) e σ := by
  refine exists_congr fun n => ?_
  simp only [resume, wpCode]
  refine iff_of_eq (congrArg (wpCode (callW T n) n [] b e σ) ?_)
  funext x e' σ'
  cases x <;> simp only [resume]

theorem run_scope {b : ACode} : Run T Q (.code (.scope b) :: k) e σ ↔ Run T Q (.code b :: k) e σ := Iff.rfl

theorem run_exit {i : Nat} : Run T Q (.code (.exit i) :: k) e σ ↔ RunX T Q (.exit i) k e σ := Iff.rfl

theorem resume_ret {cw : CallW} {n : Nat} : ∀ (k : List Item) {e : Env} {σ : Sto}, resume cw n Q k .ret e σ ↔ Q .ret e σ
  | [], _, _ => Iff.rfl
  | i :: k, e, σ => by cases i <;> simp only [resume] <;> exact resume_ret k

theorem run_ret : Run T Q (.code .ret :: k) e σ ↔ Q .ret e σ := by
  constructor
  · rintro ⟨n, h⟩; exact (resume_ret k).1 h
  · intro h; exact ⟨0, (resume_ret k).2 h⟩

theorem run_ghost {g : Ghost} : Run T Q (.code (.ghost g) :: k) e σ ↔ match ghostA g e σ with
    | some (e', σ') => Run T Q k e' σ'
    | none => False := by
  simp only [RunX, resume, wpCode]
  generalize ghostA g e σ = r
  cases r <;> simp

theorem run_endBlock {id : Nat} : Run T Q (.inBlock id :: k) e σ ↔ Run T Q k e σ := Iff.rfl
theorem run_endTrunc {m : Nat} : Run T Q (.inTrunc m :: k) e σ ↔ (σ.take m).all (AObj.under m) = true ∧ Run T Q k (sanitize m e) (σ.take m) := by
  simp only [RunX, resume]
  exact exists_and_left

theorem exit_code {i : Nat} {c : ACode} : RunX T Q (.exit i) (.code c :: k) e σ ↔ RunX T Q (.exit i) k e σ := Iff.rfl
theorem exit_loop {i : Nat} {c : ACode} : RunX T Q (.exit i) (.inLoop c :: k) e σ ↔ RunX T Q (.exit i) k e σ := Iff.rfl
theorem exit_gops {i : Nat} {c : List GOp} : RunX T Q (.exit i) (.gops c :: k) e σ ↔ RunX T Q (.exit i) k e σ := Iff.rfl
theorem exit_ops {i : Nat} {c : List AOper} : RunX T Q (.exit i) (.ops c :: k) e σ ↔ RunX T Q (.exit i) k e σ := Iff.rfl
theorem exit_trunc {i m : Nat} : RunX T Q (.exit i) (.inTrunc m :: k) e σ ↔ (σ.take m).all (AObj.under m) = true ∧ RunX T Q (.exit i) k (sanitize m e) (σ.take m) := by
  simp only [RunX, resume]
  exact exists_and_left
theorem exit_block {i id : Nat} : RunX T Q (.exit i) (.inBlock id :: k) e σ ↔ if i = id then Run T Q k e σ else RunX T Q (.exit i) k e σ := by
  simp only [RunX, resume]
  split <;> rfl

/-! ### Operations -/
theorem ops_nil : Run T Q (.ops [] :: k) e σ ↔ Run T Q k e σ := Iff.rfl

theorem ops_call {d : Option Nat} {p : Bool} {f : FuncId} {xs : List Opd} {a r : List Nat} {os : List AOper} : Run T Q (.ops (⟨d, .call p f xs, none, a, r⟩ :: os) :: k) e σ ↔ Cw T p f (xs.map (ev e)) [] σ fun v σ' => Run T Q (.ops os :: k) (put e d v) σ' := by
  constructor
  · rintro ⟨n, h⟩
    refine ⟨n, callW_sub T (Nat.le_refl n) _ _ _ _ _ _ _ (fun v σ' h => ?_) h⟩
    exact ⟨n, h⟩
  · intro h
    obtain ⟨v, σ', ⟨m, h1⟩, h2⟩ := h.det
    obtain ⟨n, h3⟩ := h2 (R' := fun u τ => u = v ∧ τ = σ') ⟨rfl, rfl⟩
    refine ⟨max n m, ?_⟩
    refine callW_sub T (Nat.le_max_left n m) _ _ _ _ _ _ _ ?_ h3
    rintro u τ ⟨rfl, rfl⟩
    exact resume_mono (callW_sub T (Nat.le_max_right n m)) (Nat.le_max_right n m) (fun _ _ _ h => h) _ _ _ _ h1

theorem ops_callv {d : Option Nat} {p : Bool} {x : Opd} {xs : List Opd} {a r : List Nat} {os : List AOper} : Run T Q (.ops (⟨d, .callv p x xs, none, a, r⟩ :: os) :: k) e σ ↔ match ev e x with
    | .clo (.func f) first captured => Cw T p f (first ++ xs.map (ev e) ++ captured) [] σ fun v σ' => Run T Q (.ops os :: k) (put e d v) σ'
    | _ => False := by
  cases hx : ev e x <;> try (simp only [RunX, resume, wpOpsA, wantedA, wpOper, hx]; simp; done)
  rename_i f first captured
  cases f <;> try (simp only [RunX, resume, wpOpsA, wantedA, wpOper, hx]; simp; done)
  rename_i f
  simp only
  have := ops_call (T := T) (Q := Q) (k := k) (e := (first ++ xs.map (ev e) ++ captured)) (σ := σ) (d := none) (p := p) (f := f) (xs := []) (a := []) (r := []) (os := [])
  constructor
  · rintro ⟨n, h⟩
    simp only [resume, wpOpsA, wantedA, wpOper, hx] at h
    refine ⟨n, callW_sub T (Nat.le_refl n) _ _ _ _ _ _ _ (fun v σ' h => ?_) h⟩
    exact ⟨n, h⟩
  · intro h
    obtain ⟨v, σ', ⟨m, h1⟩, h2⟩ := h.det
    obtain ⟨n, h3⟩ := h2 (R' := fun u τ => u = v ∧ τ = σ') ⟨rfl, rfl⟩
    refine ⟨max n m, ?_⟩
    simp only [resume, wpOpsA, wantedA, wpOper, hx]
    refine callW_sub T (Nat.le_max_left n m) _ _ _ _ _ _ _ ?_ h3
    rintro u τ ⟨rfl, rfl⟩
    exact resume_mono (callW_sub T (Nat.le_max_right n m)) (Nat.le_max_right n m) (fun _ _ _ h => h) _ _ _ _ h1

theorem ops_step {o : AOp} {d : Option Nat} {a r : List Nat} {os : List AOper} (h1 : ∀ p f xs, o ≠ .call p f xs) (h2 : ∀ p x xs, o ≠ .callv p x xs) : Run T Q (.ops (⟨d, o, none, a, r⟩ :: os) :: k) e σ ↔ match stepOp [] o e σ with
    | some (v, σ') => Run T Q (.ops os :: k) (put e d v) σ'
    | none => False := by
  cases o <;> first | exact absurd rfl (h1 _ _ _) | exact absurd rfl (h2 _ _ _) | skip
  all_goals
    simp only [RunX, resume, wpOpsA, wantedA, wpOper]
    generalize stepOp [] _ e σ = r
    cases r <;> simp

/-- a guarded operation -/
theorem ops_guard {o : AOp} {d : Option Nat} {g : Nat} {want : Bool} {a r : List Nat} {os : List AOper} : Run T Q (.ops (⟨d, o, some (some g, want), a, r⟩ :: os) :: k) e σ ↔ match e[g]? with
    | some (.bool b) => if b = want then Run T Q (.ops (⟨d, o, none, a, r⟩ :: os) :: k) e σ else Run T Q (.ops os :: k) (put e d skipped) σ
    | some (.tup _) => Run T Q (.ops os :: k) (put e d skipped) σ
    | _ => False := by
  simp only [RunX, resume, wpOpsA, wantedA, Option.bind_some]
  cases e[g]? with
  | none => simp
  | some v =>
    cases v <;> try (simp; done)
    rename_i b
    cases b <;> cases want <;> simp [wpOper]

/-! ### Calls -/
theorem cw_shared {f : FuncId} {af : AFunc} (hf : T f = some af) {args : List AVal} {R : Post} : Cw T false f args [] σ R ↔ Run T (fun x e σ => retA af x e σ R) [.code af.code] (initEnv af.ntmps args) σ := by
  constructor
  · rintro ⟨n, h⟩
    cases n with
    | zero => exact absurd h (by simp [callW])
    | succ n => simp only [callW, hf] at h; exact ⟨n, h⟩
  · rintro ⟨n, h⟩
    exact ⟨n + 1, by simp only [callW, hf]; exact h⟩

theorem cw_pure {f : FuncId} {af : AFunc} (hf : T f = some af) {args as : List AVal} (ha : args.mapM (snapA σ snapDepth) = some as) {lv : List Nat} {R : Post} : Cw T true f args lv σ R ↔
    Run T (fun x e σ' => retA af x e σ' fun v σ'' => match snapA σ'' snapDepth v with
      | some v' => (AVal.pures args = true ∨ v'.flat = true) ∧ R v' σ
      | none => False) [.code af.code] (initEnv af.ntmps as) [] := by
  constructor
  · rintro ⟨n, h⟩
    cases n with
    | zero => exact absurd h (by simp [callW])
    | succ n => simp only [callW, hf, ha] at h; exact ⟨n, h⟩
  · rintro ⟨n, h⟩
    exact ⟨n + 1, by simp only [callW, hf, ha]; exact h⟩

end
end Go.Abs
