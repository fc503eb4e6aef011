/- Parts of the proof: AbsLaw, AbsVal2, AbsEval, AbsForce. -/
import Derived.Test.YtdiekiajedmaeaaAbsVal
import Derived.Test.YtdiekiajedmaeaaJAbsCore
set_option linter.all false
/- A law that returns true, called at the top. -/
namespace Go.Abs
open Go

theorem ZkL {σ : Sto} {n : Nat} {v : AVal} {b : Bool} (h : Zn σ n v = some (.bool b)) : v = .bool b := by
 cases n with
 | zero => simp [Zn] at h
 | succ n =>
  unfold Zn at h
  split at h
  ·exact Option.some.inj h
  ·split at h
   all_goals first
    | (simp at h; done)
    | (repeat' split at h) <;> simp at h

theorem Zp4 {T : FuncId → Option AFunc} {f : FuncId} {af : AFunc} {args : List AVal} (hf : T f = some af) (hp : AVal.pures args = true) (h : Cw T true f args [] [] fun v _ => v = .bool true) :
  ∃ n, ZD T n false f args [] [] fun v _ => v = .bool true := by
 refine (Zhu hf).2 (((ZdM hf (Zbz hp)).1 h).mono fun x e σ' hx => ZbZ (fun v σ'' h => ?_) hx)
 split at h
 ·rename_i v' hv
  obtain ⟨_, rfl⟩ := h
  have := ZkL hv
  subst this
  unfold ZdW
  split
  ·exact ⟨rfl, by simp, rfl⟩
  ·rfl
 ·exact h.elim
end Go.Abs
/- Values of a walk: more. -/
namespace Go.Abs
open Go
section
variable {σ : Sto}
end
end Go.Abs
/- The abstract machine, run: a program that the kernel can reckon with. -/
namespace Go.Abs
open Go

abbrev ZbF := Bool → FuncId → List AVal → Sto → Option (AVal × Sto)

def ZfA (cw : ZbF) (o : AOper) (e : Env) (σ : Sto) : Option (Env × Sto) :=
 match o.op with
 | .call p f args =>
  match cw p f (args.map (ev e)) σ with
  | some (v, σ') => some (put e o.dst v, σ')
  | none => none
 | .callv p x args =>
  match ev e x with
  | .clo (.func f) first captured =>
   match cw p f (first ++ args.map (ev e) ++ captured) σ with
   | some (v, σ') => some (put e o.dst v, σ')
   | none => none
  | .yld l =>
   match p with
   | true => none
   | false =>
    match cw false Zag (.yld l :: args.map (ev e)) σ with
    | some (v, σ') => some (put e o.dst v, σ')
    | none => none
  | _ => none
 | op =>
  match Zc [] op e σ with
  | some (v, σ') => some (put e o.dst v, σ')
  | none => none

def Zb4 (cw : ZbF) : List AOper → Env → Sto → Option (Env × Sto)
 | [], e, σ => some (e, σ)
 | o :: os, e, σ =>
  match ZN o e with
  | some true =>
   match ZfA cw o e σ with
   | some (e', σ') => Zb4 cw os e' σ'
   | none => none
  | some false => Zb4 cw os (put e o.dst ZaY) σ
  | none => none

def ZcH (cw : ZbF) : List GOp → Env → Sto → Option (Env × Sto)
 | [], e, σ => some (e, σ)
 | .op o :: os, e, σ =>
  match Zb4 cw [o] e σ with
  | some (e', σ') => ZcH cw os e' σ'
  | none => none
 | .gh g :: os, e, σ =>
  match Zac g e σ with
  | some (e', σ') => ZcH cw os e' σ'
  | none => none

def Zeu (body : Env → Sto → Option (AExit × Env × Sto)) : Nat → Env → Sto → Option (AExit × Env × Sto)
 | 0, _, _ => none
 | n + 1, e, σ =>
  match body e σ with
  | some (.normal, e', σ') => Zeu body n e' σ'
  | r => r

def Fn.same : Fn → Fn → Bool
 | .func f, .func g => Nat.beq f g
 | _, _ => false
theorem Fn.same_eq {f g : Fn} (h : Fn.same f g = true) : f = g := by
 cases f <;> cases g <;> simp only [Fn.same, Bool.false_eq_true] at h
 rw [Nat.eq_of_beq_eq_true h]
mutual
def AVal.beq : AVal → AVal → Bool
 | .und, v => (match v with | .und => true | _ => false)
 | .bool a, v => (match v with | .bool b => a == b | _ => false)
 | .int k n, v => (match v with | .int k' n' => decide (k = k') && decide (n = n') | _ => false)
 | .str a, v => (match v with | .str b => decide (a = b) | _ => false)
 | .nils, v => (match v with | .nils => true | _ => false)
 | .emp, v => (match v with | .emp => true | _ => false)
 | .list k xs, v => (match v with | .list k' ys => Nat.beq k k' && AVal.beqL xs ys | _ => false)
 | .ref o g f l k, v => (match v with | .ref o' g' f' l' k' => Nat.beq o o' && (Nat.beq g g' && (Nat.beq f f' && (Nat.beq l l' && Nat.beq k k'))) | _ => false)
 | .nilp, v => (match v with | .nilp => true | _ => false)
 | .fptr xs, v => (match v with | .fptr ys => AVal.beqL xs ys | _ => false)
 | .ptr o g f, v => (match v with | .ptr o' g' f' => Nat.beq o o' && (Nat.beq g g' && Nat.beq f f') | _ => false)
 | .nilm, v => (match v with | .nilm => true | _ => false)
 | .fmap a b, v => (match v with | .fmap a' b' => AVal.beqL a a' && AVal.beqL b b' | _ => false)
 | .map o, v => (match v with | .map o' => Nat.beq o o' | _ => false)
 | .nilf, v => (match v with | .nilf => true | _ => false)
 | .clo f a b, v => (match v with | .clo f' a' b' => Fn.same f f' && (AVal.beqL a a' && AVal.beqL b b') | _ => false)
 | .nili, v => (match v with | .nili => true | _ => false)
 | .iface t x, v => (match v with | .iface t' y => Nat.beq t t' && AVal.beq x y | _ => false)
 | .agg xs, v => (match v with | .agg ys => AVal.beqL xs ys | _ => false)
 | .tup xs, v => (match v with | .tup ys => AVal.beqL xs ys | _ => false)
 | .yld o, v => (match v with | .yld o' => Nat.beq o o' | _ => false)
def AVal.beqL : List AVal → List AVal → Bool
 | [], v => (match v with | [] => true | _ => false)
 | x :: xs, v => (match v with | y :: ys => AVal.beq x y && AVal.beqL xs ys | _ => false)
end
theorem AVal.beqs : ∀ (x : AVal), ∀ y, AVal.beq x y = true → x = y := by
 intro x
 refine AVal.rec (motive_1 := fun x => ∀ y, AVal.beq x y = true → x = y) (motive_2 := fun xs => ∀ ys, AVal.beqL xs ys = true → xs = ys)
  ?_ ?_ ?_ ?_ ?_ ?_ ?_ ?_ ?_ ?_ ?_ ?_ ?_ ?_ ?_ ?_ ?_ ?_ ?_ ?_ ?_ ?_ ?_ x
 all_goals intros
 all_goals rename_i y h
 all_goals cases y <;> simp only [AVal.beq, AVal.beqL, Bool.false_eq_true, Bool.and_eq_true, beq_iff_eq, decide_eq_true_eq] at h
 all_goals first
  | rfl
  | (obtain rfl := h; rfl)
  | (obtain ⟨rfl, rfl⟩ := h; rfl)
  | (rw [Nat.eq_of_beq_eq_true h]; done)
  | (obtain ⟨h1, h2, h3, h4, h5⟩ := h; rw [Nat.eq_of_beq_eq_true h1, Nat.eq_of_beq_eq_true h2, Nat.eq_of_beq_eq_true h3, Nat.eq_of_beq_eq_true h4, Nat.eq_of_beq_eq_true h5]; done)
  | (obtain ⟨h1, h2, h3⟩ := h; rw [Nat.eq_of_beq_eq_true h1, Nat.eq_of_beq_eq_true h2, Nat.eq_of_beq_eq_true h3]; done)
  | (rename_i ih _; rw [ih _ h]; done)
  | (rename_i ih _ _; obtain ⟨h1, h2⟩ := h; rw [Nat.eq_of_beq_eq_true h1, ih _ h2]; done)
  | (rename_i iha ihb _ _; obtain ⟨h1, h2⟩ := h; rw [iha _ h1, ihb _ h2]; done)
  | (rename_i iha ihb _ _ _; obtain ⟨h0, h1, h2⟩ := h; rw [Fn.same_eq h0, iha _ h1, ihb _ h2]; done)
  | skip
theorem AVal.beqL_eq : ∀ {xs ys : List AVal}, AVal.beqL xs ys = true → xs = ys
 | [], [], _ => rfl
 | [], _ :: _, h => by simp [AVal.beqL] at h
 | _ :: _, [], h => by simp [AVal.beqL] at h
 | x :: xs, y :: ys, h => by
  simp only [AVal.beqL, Bool.and_eq_true] at h
  rw [AVal.beqs x y h.1, AVal.beqL_eq h.2]
def AObj.beq : AObj → AObj → Bool
 | .cells a xs, v => (match v with | .cells b ys => (a == b) && AVal.beqL xs ys | _ => false)
 | .map a b, v => (match v with | .map a' b' => AVal.beqL a a' && AVal.beqL b b' | _ => false)
 | .dead, v => (match v with | .dead => true | _ => false)
 | .loop .., _ => false
theorem AObj.beq_eq {x y : AObj} (h : AObj.beq x y = true) : x = y := by
 cases x <;> cases y <;> simp only [AObj.beq, Bool.false_eq_true, Bool.and_eq_true, beq_iff_eq] at h
 ·rw [h.1, AVal.beqL_eq h.2]
 ·rw [AVal.beqL_eq h.1, AVal.beqL_eq h.2]
 ·rfl
def Zdf : Sto → Sto → Bool
 | [], v => (match v with | [] => true | _ => false)
 | x :: xs, v => (match v with | y :: ys => AObj.beq x y && Zdf xs ys | _ => false)
theorem ZhX : ∀ {xs ys : Sto}, Zdf xs ys = true → xs = ys
 | [], [], _ => rfl
 | [], _ :: _, h => by simp [Zdf] at h
 | _ :: _, [], h => by simp [Zdf] at h
 | x :: xs, y :: ys, h => by
  simp only [Zdf, Bool.and_eq_true] at h
  rw [AObj.beq_eq h.1, ZhX h.2]

def Zdg (o : Nat) (e : Env) (σ : Sto) : Option (AExit × Env × Sto) :=
 match σ[o]? with
 | some (.loop _ _ _ .ready) => some (.normal, e, σ.set o .dead)
 | some (.loop _ _ _ (.done x)) => some (x, e, σ.set o .dead)
 | _ => none

def ZF (cw : ZbF) (n : Nat) : ACode → Env → Sto → Option (AExit × Env × Sto)
 | .skip, e, σ => some (.normal, e, σ)
 | .region _ ops, e, σ =>
  match Zb4 cw ops e σ with
  | some (e', σ') => some (.normal, e', σ')
  | none => none
 | .regionG ops, e, σ =>
  match ZcH cw ops e σ with
  | some (e', σ') => some (.normal, e', σ')
  | none => none
 | .regionA c m ops, e, σ =>
  match Zb4 cw ops e σ with
  | some (e', σ') =>
   match Zb4 cw (ZaL c m ops) e σ with
   | some (e2, σ2) => if (AVal.beqL e2 e' && Zdf σ2 σ') = true then some (.normal, e', σ') else none
   | none => none
  | none => none
 | .regionD s ops, e, σ =>
  match Zb4 cw ops e σ with
  | some (e', σ') => if ZeH s e' = true then some (.normal, e', σ') else none
  | none => none
 | .seq a b, e, σ =>
  match ZF cw n a e σ with
  | some (.normal, e', σ') => ZF cw n b e' σ'
  | r => r
 | .cond c a b, e, σ =>
  match ev e c with
  | .bool true => ZF cw n a e σ
  | .bool false => ZF cw n b e σ
  | _ => none
 | .block id b, e, σ =>
  match ZF cw n b e σ with
  | some (.exit i, e', σ') => if i = id then some (.normal, e', σ') else some (.exit i, e', σ')
  | r => r
 | .loop b, e, σ => Zeu (ZF cw n b) n e σ
 | .scope b, e, σ => ZF cw n b e σ
 | .exit id, e, σ => some (.exit id, e, σ)
 | .ret, e, σ => some (.ret, e, σ)
 | .trunc b, e, σ =>
  match ZF cw n b e σ with
  | some (.ret, e', σ') => some (.ret, e', σ')
  | some (x, e', σ') => if (σ'.take σ.length).all (AObj.under σ.length) = true then some (x, Zaj σ.length e', σ'.take σ.length) else none
  | none => none
 | .ghost g, e, σ =>
  match Zac g e σ with
  | some (e', σ') => some (.normal, e', σ')
  | none => none
 | .rangeF x ps body, e, σ =>
  match ev e x with
  | .clo (.func g) first captured =>
   match cw false g (first ++ [.yld σ.length] ++ captured) (σ ++ [.loop ps body e .ready]) with
   | some (_, σ') => Zdg σ.length e σ'
   | none => none
  | _ => none

def Zev (o : Nat) (x : AExit) (σ : Sto) : Option (AVal × Sto) :=
 match σ[o]? with
 | some (.loop ps body e .busy) => some (.bool (x == .normal), σ.set o (.loop ps body e (if x = .normal then .ready else .done x)))
 | _ => none

def Ze3 (cw : ZbF) (n : Nat) (args : List AVal) (σ : Sto) : Option (AVal × Sto) :=
 match args with
 | .yld o :: ys =>
  match σ[o]? with
  | some (.loop ps body e .ready) =>
   if ys.length = ps.length then
    match ZF cw n body (Zb6 e ps ys) (σ.set o (.loop ps body e .busy)) with
    | some (x, _, σ') => Zev o x σ'
    | none => none
   else none
  | _ => none
 | _ => none

def ZaV (T : FuncId → Option AFunc) : Nat → ZbF
 | 0, _, _, _, _ => none
 | n + 1, true, f, args, σ =>
  match args.mapM (Zn σ Zh), T f with
  | some as, some af =>
   match ZF (ZaV T n) n af.code (Zah af.ntmps as) [] with
   | some (.exit _, _, _) => none
   | some (_, e, σ') =>
    match ZP af.results e σ' with
    | some v =>
     match Zn σ' Zh v with
     | some v' => if AVal.pures args = true ∨ v'.flat = true then some (v', σ) else none
     | none => none
    | none => none
   | none => none
  | _, _ => none
 | n + 1, false, f, args, σ =>
  match T f with
  | some af =>
   match ZF (ZaV T n) n af.code (Zah af.ntmps args) σ with
   | some (.exit _, _, _) => none
   | some (_, e, σ') =>
    match ZP af.results e σ' with
    | some v => if af.cut = true then (if v.under σ.length = true ∧ (σ'.take σ.length).all (AObj.under σ.length) = true then some (v, σ'.take σ.length) else none) else some (v, σ')
    | none => none
   | none => none
  | none => if f = Zag then Ze3 (ZaV T n) n args σ else none

def Snd (cw : Zz) (ce : ZbF) : Prop := ∀ (p : Bool) (f : FuncId) (args : List AVal) (σ : Sto) (v : AVal) (σ' : Sto), ce p f args σ = some (v, σ') → ∀ Q : Zs, Q v σ' → cw p f args [] σ Q

theorem ZiO {cw : Zz} {ce : ZbF} (hS : Snd cw ce) {o : AOper} {e : Env} {σ : Sto} {e' : Env} {σ' : Sto} (h : ZfA ce o e σ = some (e', σ')) {K : Env → Sto → Prop} (hK : K e' σ') : ZZ cw [] o e σ K := by
 obtain ⟨dst, op, g, a, r⟩ := o
 cases op <;> simp only [ZfA, ZZ] at h ⊢
 case call p f args =>
  split at h
  ·rename_i v τ hc
   obtain ⟨rfl, rfl⟩ := Prod.mk.inj (Option.some.inj h)
   exact hS _ _ _ _ _ _ hc (fun v σ' => K (put e dst v) σ') hK
  ·simp at h
 case callv p x args =>
  cases hx : ev e x <;> rw [hx] at h <;> try (simp at h; done)
  case yld l =>
   cases p with
   | true => simp at h
   | false =>
    simp only at h ⊢
    split at h
    ·rename_i v τ hc
     obtain ⟨rfl, rfl⟩ := Prod.mk.inj (Option.some.inj h)
     exact ⟨trivial, hS _ _ _ _ _ _ hc (fun v σ' => K (put e dst v) σ') hK⟩
    ·simp at h
  rename_i f first captured
  cases f <;> try (simp at h; done)
  rename_i f
  simp only at h ⊢
  split at h
  ·rename_i v τ hc
   obtain ⟨rfl, rfl⟩ := Prod.mk.inj (Option.some.inj h)
   exact hS _ _ _ _ _ _ hc (fun v σ' => K (put e dst v) σ') hK
  ·simp at h
 all_goals
  generalize Zc [] _ e σ = q at h ⊢
  cases q with
  | none => simp at h
  | some q =>
   obtain ⟨v, τ⟩ := q
   obtain ⟨rfl, rfl⟩ := Prod.mk.inj (Option.some.inj h)
   exact hK

theorem ZaW {cw : Zz} {ce : ZbF} (hS : Snd cw ce) : ∀ (os : List AOper) {e : Env} {σ : Sto} {e' : Env} {σ' : Sto}, Zb4 ce os e σ = some (e', σ') → ∀ {K : Env → Sto → Prop}, K e' σ' → Zu cw [] os e σ K
 | [], e, σ, e', σ', h, K, hK => by
  obtain ⟨rfl, rfl⟩ := Prod.mk.inj (Option.some.inj h); exact hK
 | o :: os, e, σ, e', σ', h, K, hK => by
  simp only [Zb4] at h
  simp only [Zu]
  cases hw : ZN o e with
  | none => rw [hw] at h; simp at h
  | some b =>
   rw [hw] at h
   cases b <;> simp only at h ⊢
   ·exact ZaW hS os h hK
   ·split at h
    ·rename_i e1 σ1 h1
     exact ZiO hS h1 (K := fun e' σ' => Zu cw [] os e' σ' K) (ZaW hS os h hK)
    ·simp at h

theorem Zdh {cw : Zz} {ce : ZbF} (hS : Snd cw ce) : ∀ (os : List GOp) {e : Env} {σ : Sto} {e' : Env} {σ' : Sto}, ZcH ce os e σ = some (e', σ') → ∀ {K : Env → Sto → Prop}, K e' σ' → Zad cw [] os e σ K
 | [], e, σ, e', σ', h, K, hK => by
  obtain ⟨rfl, rfl⟩ := Prod.mk.inj (Option.some.inj h); exact hK
 | .op o :: os, e, σ, e', σ', h, K, hK => by
  simp only [ZcH] at h
  simp only [Zad]
  split at h
  ·rename_i e1 σ1 h1
   exact ZaW hS _ h1 (K := fun e' σ' => Zad cw [] os e' σ' K) (Zdh hS os h hK)
  ·simp at h
 | .gh g :: os, e, σ, e', σ', h, K, hK => by
  simp only [ZcH] at h
  simp only [Zad]
  cases hg : Zac g e σ with
  | none => rw [hg] at h; simp at h
  | some p =>
   obtain ⟨e1, σ1⟩ := p
   rw [hg] at h
   exact Zdh hS os h hK

theorem Ze4 {body : Env → Sto → Zg → Prop} {b : Env → Sto → Option (AExit × Env × Sto)} (hb : ∀ (e : Env) (σ : Sto) (x : AExit) (e' : Env) (σ' : Sto), b e σ = some (x, e', σ') → ∀ Q : Zg, Q x e' σ' → body e σ Q) :
  ∀ (n : Nat) {e : Env} {σ : Sto} {x : AExit} {e' : Env} {σ' : Sto}, Zeu b n e σ = some (x, e', σ') → ∀ {Q : Zg}, Q x e' σ' → Zbx body n e σ Q
 | 0, _, _, _, _, _, h, _, _ => by simp [Zeu] at h
 | n + 1, e, σ, x, e', σ', h, Q, hQ => by
  simp only [Zeu] at h
  simp only [Zbx]
  cases hbe : b e σ with
  | none => rw [hbe] at h; simp at h
  | some r =>
   obtain ⟨y, e1, σ1⟩ := r
   rw [hbe] at h
   refine hb _ _ _ _ _ hbe _ ?_
   cases y <;> simp only at h
   case normal => exact Ze4 hb n h hQ
   all_goals
    obtain ⟨rfl, k⟩ := Prod.mk.inj (Option.some.inj h)
    obtain ⟨rfl, rfl⟩ := Prod.mk.inj k
    exact hQ

theorem Zdi {cw : Zz} {ce : ZbF} (hS : Snd cw ce) {n : Nat} : ∀ (c : ACode) {e : Env} {σ : Sto} {x : AExit} {e' : Env} {σ' : Sto}, ZF ce n c e σ = some (x, e', σ') → ∀ {Q : Zg}, Q x e' σ' → Zf cw n [] c e σ Q := by
 have triple : ∀ {x y : AExit} {e e' : Env} {σ σ' : Sto}, some (x, e, σ) = some (y, e', σ') → x = y ∧ e = e' ∧ σ = σ' := by
  intro x y e e' σ σ' h
  have k := Option.some.inj h
  injection k with k1 k2
  injection k2 with k2 k3
  exact ⟨k1, k2, k3⟩
 intro c
 induction c with
 | skip => intro e σ x e' σ' h Q hQ; obtain ⟨rfl, rfl, rfl⟩ := triple h; exact hQ
 | region d ops =>
  intro e σ x e' σ' h Q hQ
  simp only [ZF] at h
  simp only [Zf]
  split at h
  ·rename_i e1 σ1 h1
   obtain ⟨rfl, rfl, rfl⟩ := triple h
   exact ZaW hS ops h1 hQ
  ·simp at h
 | regionG ops =>
  intro e σ x e' σ' h Q hQ
  simp only [ZF] at h
  simp only [Zf]
  split at h
  ·rename_i e1 σ1 h1
   obtain ⟨rfl, rfl, rfl⟩ := triple h
   exact Zdh hS ops h1 hQ
  ·simp at h
 | regionA c m ops =>
  intro e σ x e' σ' h Q hQ
  simp only [ZF] at h
  simp only [Zf]
  split at h
  ·rename_i e1 σ1 h1
   split at h
   ·rename_i e2 σ2 h2
    split at h
    ·rename_i hb
     obtain ⟨rfl, rfl, rfl⟩ := triple h
     simp only [Bool.and_eq_true] at hb
     exact ZaW hS ops h1 ⟨ZaW hS _ h2 ⟨AVal.beqL_eq hb.1, ZhX hb.2⟩, hQ⟩
    ·simp at h
   ·simp at h
  ·simp at h
 | regionD s ops =>
  intro e σ x e' σ' h Q hQ
  simp only [ZF] at h
  simp only [Zf]
  split at h
  ·rename_i e1 σ1 h1
   split at h
   ·rename_i hs
    obtain ⟨rfl, rfl, rfl⟩ := triple h
    exact ZaW hS ops h1 ⟨hs, hQ⟩
   ·simp at h
  ·simp at h
 | seq a b iha ihb =>
  intro e σ x e' σ' h Q hQ
  simp only [ZF] at h
  simp only [Zf]
  cases ha : ZF ce n a e σ with
  | none => rw [ha] at h; simp at h
  | some r =>
   obtain ⟨y, e1, σ1⟩ := r
   rw [ha] at h
   refine iha ha ?_
   cases y <;> simp only at h ⊢
   case normal => exact ihb h hQ
   case exit i => obtain ⟨rfl, rfl, rfl⟩ := triple h; exact hQ
   case ret => obtain ⟨rfl, rfl, rfl⟩ := triple h; exact hQ
 | cond c a b iha ihb =>
  intro e σ x e' σ' h Q hQ
  simp only [ZF] at h
  simp only [Zf]
  cases hc : ev e c <;> rw [hc] at h <;> try (simp at h; done)
  rename_i t
  cases t <;> simp only at h ⊢
  ·exact ihb h hQ
  ·exact iha h hQ
 | block id b ih =>
  intro e σ x e' σ' h Q hQ
  simp only [ZF] at h
  simp only [Zf]
  cases hb : ZF ce n b e σ with
  | none => rw [hb] at h; simp at h
  | some r =>
   obtain ⟨y, e1, σ1⟩ := r
   rw [hb] at h
   refine ih hb ?_
   cases y <;> simp only at h ⊢
   case normal => obtain ⟨rfl, rfl, rfl⟩ := triple h; exact hQ
   case exit i =>
    split at h
    ·rename_i hi; obtain ⟨rfl, rfl, rfl⟩ := triple h; rw [if_pos hi]; exact hQ
    ·rename_i hi; obtain ⟨rfl, rfl, rfl⟩ := triple h; rw [if_neg hi]; exact hQ
   case ret => obtain ⟨rfl, rfl, rfl⟩ := triple h; exact hQ
 | loop b ih =>
  intro e σ x e' σ' h Q hQ
  simp only [ZF] at h
  simp only [Zf]
  exact Ze4 (body := Zf cw n [] b) (fun _ _ _ _ _ h _ hq => ih h hq) n h hQ
 | scope b ih => intro e σ x e' σ' h Q hQ; simp only [ZF] at h; simp only [Zf]; exact ih h hQ
 | exit id => intro e σ x e' σ' h Q hQ; obtain ⟨rfl, rfl, rfl⟩ := triple h; exact hQ
 | ret => intro e σ x e' σ' h Q hQ; obtain ⟨rfl, rfl, rfl⟩ := triple h; exact hQ
 | trunc b ih =>
  intro e σ x e' σ' h Q hQ
  simp only [ZF] at h
  simp only [Zf]
  cases hb : ZF ce n b e σ with
  | none => rw [hb] at h; simp at h
  | some r =>
   obtain ⟨y, e1, σ1⟩ := r
   rw [hb] at h
   refine ih hb ?_
   cases y <;> simp only at h ⊢
   case ret => obtain ⟨rfl, rfl, rfl⟩ := triple h; exact hQ
   case normal =>
    split at h
    ·rename_i hu; obtain ⟨rfl, rfl, rfl⟩ := triple h; exact ⟨hu, hQ⟩
    ·simp at h
   case exit i =>
    split at h
    ·rename_i hu; obtain ⟨rfl, rfl, rfl⟩ := triple h; exact ⟨hu, hQ⟩
    ·simp at h
 | ghost g =>
  intro e σ x e' σ' h Q hQ
  simp only [ZF] at h
  simp only [Zf]
  split at h
  ·rename_i e1 σ1 h1
   obtain ⟨rfl, rfl, rfl⟩ := triple h
   split
   ·rename_i h2; rw [h1] at h2; obtain ⟨rfl, rfl⟩ := Prod.mk.inj (Option.some.inj h2); exact hQ
   ·rename_i h2; rw [h1] at h2; simp at h2
  ·simp at h
 | rangeF y ps b ih =>
  intro e σ x e' σ' h Q hQ
  simp only [ZF] at h
  simp only [Zf]
  cases hx : ev e y <;> rw [hx] at h <;> try (simp at h; done)
  rename_i f first captured
  cases f <;> try (simp at h; done)
  rename_i f
  simp only at h ⊢
  split at h
  ·rename_i v τ hc
   refine hS _ _ _ _ _ _ hc _ ?_
   unfold Zdg at h
   unfold Z9
   split at h
   ·rename_i hσ; obtain ⟨rfl, rfl, rfl⟩ := triple h; rw [hσ]; exact hQ
   ·rename_i hσ; obtain ⟨rfl, rfl, rfl⟩ := triple h; rw [hσ]; exact hQ
   ·simp at h
  ·simp at h

theorem Zhn {cw : Zz} {ce : ZbF} (hS : Snd cw ce) {n : Nat} {args : List AVal} {σ σ' : Sto} {v : AVal} (h : Ze3 ce n args σ = some (v, σ')) {Q : Zs} (hQ : Q v σ') : Za5 cw n args [] σ Q := by
 unfold Ze3 at h
 unfold Za5
 split at h
 case h_2 => simp at h
 split at h
 case h_2 => simp at h
 rename_i hσ
 split at h
 case isFalse => simp at h
 rename_i hl
 split at h
 case h_2 => simp at h
 rename_i hc
 simp only [hσ]
 refine ⟨hl, Zdi hS _ hc ?_⟩
 unfold Zev at h
 unfold Zak
 split at h
 ·rename_i hτ
  obtain ⟨rfl, rfl⟩ := Prod.mk.inj (Option.some.inj h)
  rw [hτ]; exact hQ
 ·simp at h

theorem Ze5 (T : FuncId → Option AFunc) : ∀ n, Snd (ZD T n) (ZaV T n)
 | 0 => fun _ _ _ _ _ _ h => by simp [ZaV] at h
 | n + 1 => by
  have ih := Ze5 T n
  have pair : ∀ {v v' : AVal} {σ σ' : Sto}, some (v, σ) = some (v', σ') → v = v' ∧ σ = σ' := fun h => Prod.mk.inj (Option.some.inj h)
  intro p f args σ v σ' h Q hQ
  cases p with
  | true =>
   simp only [ZaV] at h
   simp only [ZD]
   split at h
   case h_2 => simp at h
   rename_i as af h1 h2
   split at h
   case h_1 => simp at h
   case h_3 => simp at h
   rename_i x e1 σ1 hnx hc
   split at h
   case h_2 => simp at h
   rename_i u hu
   split at h
   case h_2 => simp at h
   rename_i u' hu'
   split at h
   case isFalse => simp at h
   rename_i hor
   obtain ⟨rfl, rfl⟩ := pair h
   simp only [h1, h2]
   refine Zdi ih _ hc ?_
   cases x with
   | exit i => exact (hnx i rfl).elim
   | normal => simp only [Zcp, hu, hu']; exact ⟨hor, hQ⟩
   | ret => simp only [Zcp, hu, hu']; exact ⟨hor, hQ⟩
  | false =>
   simp only [ZaV] at h
   simp only [ZD]
   split at h
   case h_2 =>
    rename_i h2
    rw [h2]
    split at h
    ·rename_i hf; exact ⟨hf, Zhn ih h hQ⟩
    ·simp at h
   rename_i af h2
   split at h
   case h_1 => simp at h
   case h_3 => simp at h
   rename_i x e1 σ1 hnx hc
   split at h
   case h_2 => simp at h
   rename_i u hu
   simp only [h2]
   refine Zdi ih _ hc ?_
   have hfin : ZdW af.cut σ.length Q u σ1 := by
    unfold ZdW
    split at h
    ·rename_i hcut
     rw [if_pos hcut]
     split at h
     ·rename_i hh
      obtain ⟨rfl, rfl⟩ := pair h
      exact ⟨hh.1, hh.2, hQ⟩
     ·simp at h
    ·rename_i hcut
     rw [if_neg hcut]
     obtain ⟨rfl, rfl⟩ := pair h
     exact hQ
   cases x with
   | exit i => exact (hnx i rfl).elim
   | normal => simp only [Zcp, hu]; exact hfin
   | ret => simp only [Zcp, hu]; exact hfin

theorem ZjQ {T : FuncId → Option AFunc} {n : Nat} {f : FuncId} {args : List AVal} {σ σ' : Sto} {v : AVal} (h : ZaV T n true f args σ = some (v, σ')) : σ' = σ := by
 cases n with
 | zero => simp [ZaV] at h
 | succ n =>
  simp only [ZaV] at h
  repeat' split at h
  all_goals first
   | (simp at h; done)
   | exact (Prod.mk.inj (Option.some.inj h)).2.symm

end Go.Abs
/- The abstract machine, run with every value reckoned out at each step: for the kernel. -/
namespace Go.Abs
open Go

noncomputable section
section
variable {β : Type}
def Ze0 (n : Nat) (k : Nat → β) : β := @Nat.casesOn (fun _ => β) n (k 0) (fun m => k (m + 1))
theorem ZiH (n : Nat) (k : Nat → β) : Ze0 n k = k n := by cases n <;> rfl
def Zp6 (z : Int) (k : Int → β) : β := @Int.casesOn (fun _ => β) z (fun n => Ze0 n fun n => k (.ofNat n)) (fun n => Ze0 n fun n => k (.negSucc n))
theorem Zlo (z : Int) (k : Int → β) : Zp6 z k = k z := by cases z <;> simp only [Zp6, ZiH]
def ZoQ (b : Bool) (k : Bool → β) : β := @Bool.casesOn (fun _ => β) b (k false) (k true)
theorem ZjL (b : Bool) (k : Bool → β) : ZoQ b k = k b := by cases b <;> rfl

def fH (v : AVal) (c : AVal → β) : β := match v with
 | .int k n => Zp6 n fun n => c (.int k n)
 | .bool b => ZoQ b fun b => c (.bool b)
 | v => c v
theorem Zuy (v : AVal) (c : AVal → β) : fH v c = c v := by
 unfold fH
 split <;> simp only [Zlo, ZjL]
def fL (xs : List AVal) : (List AVal → β) → β := @List.rec AVal (fun _ => (List AVal → β) → β) (fun c => c []) (fun x _ ih c => fH x fun x => ih fun xs => c (x :: xs)) xs
theorem Ze1 : ∀ (xs : List AVal) (c : List AVal → β), fL xs c = c xs
 | [], c => rfl
 | x :: xs, c => by
  have ih := Ze1 xs
  show fH x (fun x => fL xs fun xs => c (x :: xs)) = _
  rw [Zuy, ih]
def fV (v : AVal) (c : AVal → β) : β := match v with
 | .int k n => Zp6 n fun n => c (.int k n)
 | .bool b => ZoQ b fun b => c (.bool b)
 | .list k xs => fL xs fun xs => c (.list k xs)
 | .ref o g f l k => Ze0 o fun o => Ze0 g fun g => Ze0 f fun f => Ze0 l fun l => c (.ref o g f l k)
 | .fptr cs => fL cs fun cs => c (.fptr cs)
 | .ptr o g f => Ze0 o fun o => Ze0 g fun g => Ze0 f fun f => c (.ptr o g f)
 | .map o => Ze0 o fun o => c (.map o)
 | .agg cs => fL cs fun cs => c (.agg cs)
 | .tup cs => fL cs fun cs => c (.tup cs)
 | .yld o => Ze0 o fun o => c (.yld o)
 | v => c v
theorem ZhW (v : AVal) (c : AVal → β) : fV v c = c v := by
 unfold fV
 split <;> simp only [Zlo, ZjL, Ze1, ZiH]

def Zp7 (o : AObj) (c : AObj → β) : β := @AObj.casesOn (fun _ => β) o (fun nl cs => fL cs fun cs => c (.cells nl cs)) (fun ks vs => fL ks fun ks => fL vs fun vs => c (.map ks vs)) (fun ps b e st => c (.loop ps b e st)) (c .dead)
theorem Zp8 (o : AObj) (c : AObj → β) : Zp7 o c = c o := by cases o <;> simp only [Zp7, Ze1]
def Zd0 (σ : Sto) : (Sto → β) → β := @List.rec AObj (fun _ => (Sto → β) → β) (fun c => c []) (fun x _ ih c => Zp7 x fun x => ih fun xs => c (x :: xs)) σ
theorem ZcA : ∀ (s : Sto) (c : Sto → β), Zd0 s c = c s
 | [], c => rfl
 | x :: xs, c => by
  have ih := ZcA xs
  show Zp7 x (fun x => Zd0 xs fun xs => c (x :: xs)) = _
  rw [Zp8, ih]
def Zr2 (e : Env) (v : AVal) : Nat → (Env → β) → β := @List.rec AVal (fun _ => Nat → (Env → β) → β) (fun _ c => c []) (fun x xs ih d c => @Nat.casesOn (fun _ => β) d (c (v :: xs)) (fun d => ih d fun e => c (x :: e))) e
theorem Zlp : ∀ (e : Env) (d : Nat) (v : AVal) (c : Env → β), Zr2 e v d c = c (e.set d v)
 | [], _, _, c => rfl
 | _ :: e, 0, v, c => rfl
 | x :: e, d + 1, v, c => by
  have ih := Zlp e d v
  show Zr2 e v d (fun e => c (x :: e)) = _
  rw [ih]; rfl
def ZiI (e : Env) (d : Option Nat) (v : AVal) (c : Env → β) : β := @Option.casesOn Nat (fun _ => β) d (c e) (fun d => Zr2 e v d c)
theorem Zf8 (e : Env) (d : Option Nat) (v : AVal) (c : Env → β) : ZiI e d v c = c (put e d v) := by cases d <;> simp only [ZiI, put, Zlp]
end

def gE (e : Env) : Nat → AVal := @List.rec AVal (fun _ => Nat → AVal) (fun _ => .und) (fun x _ ih n => @Nat.casesOn (fun _ => AVal) n x (fun m => ih m)) e
theorem ZqT : ∀ (e : Env) (t : Nat), gE e t = e.getD t .und
 | [], t => by simp [gE]
 | x :: e, 0 => rfl
 | x :: e, t + 1 => by
  have ih := ZqT e t
  show gE e t = _
  rw [ih]; simp
def evF (e : Env) (x : Opd) : AVal := @Opd.casesOn (fun _ => AVal) x (fun t => gE e t) (fun v => v)
theorem ZiJ (e : Env) (x : Opd) : evF e x = ev e x := by cases x <;> simp only [evF, ev, ZqT]
theorem Zp9 (e : Env) : evF e = ev e := funext (ZiJ e)

abbrev ZcB := Bool → FuncId → List AVal → Sto → (AVal → Sto → Bool) → Bool

def on2 {α β : Type} (r : Option (α × β)) (k : α → β → Bool) : Bool := match r with
 | some (a, b) => k a b
 | none => false
def on3 {α β γ : Type} (r : Option (α × β × γ)) (k : α → β → γ → Bool) : Bool := match r with
 | some (a, b, c) => k a b c
 | none => false

def fin (dst : Option Nat) (e : Env) (k : Env → Sto → Bool) (r : Option (AVal × Sto)) : Bool := on2 r fun v σ => fV v fun v => ZiI e dst v fun e => k e σ
def Zdt (dst : Option Nat) (e : Env) (k : Env → Sto → Bool) (r : Option (AVal × Sto)) : Bool := on2 r fun v σ => fV v fun v => ZiI e dst v fun e => Zd0 σ fun σ => k e σ
theorem Zr3 (dst : Option Nat) (e : Env) (k : Env → Sto → Bool) (r : Option (AVal × Sto)) : fin dst e k r = on2 r fun v σ => k (put e dst v) σ := by
 simp only [fin, ZhW, Zf8]
theorem Zqa (dst : Option Nat) (e : Env) (k : Env → Sto → Bool) (r : Option (AVal × Sto)) : Zdt dst e k r = on2 r fun v σ => k (put e dst v) σ := by
 simp only [Zdt, ZhW, Zf8, ZcA]

def Zr4 (zero : List AVal) (x : AVal) (σ : Sto) : Option (AVal × Sto) := Zc [] (.clear zero (.cst x)) [] σ
def ZoR (cw : ZcB) (p : Bool) (x : AVal) (args : List AVal) (σ : Sto) (k : AVal → Sto → Bool) : Bool := match x with
 | .clo (.func f) first captured => cw p f (first ++ args ++ captured) σ k
 | .yld l => @Bool.casesOn (fun _ => Bool) p (cw false Zag (.yld l :: args) σ k) false
 | _ => false

def ZgY (cw : ZcB) (d : Option Nat) (e : Env) (σ : Sto) (k : Env → Sto → Bool) (op : AOp) : Bool :=
 @AOp.casesOn (fun _ => Bool) op
  (fun x => fin d e k (some (evF e x, σ)))
  (fun c a b => fin d e k (ZnY (evF e c) (evF e a) (evF e b) σ))
  (fun zero => Zdt d e k (some (.ptr σ.length zero.length 0, σ ++ [.cells false zero])))
  (fun n x => Zdt d e k (Zq3 n (evF e x) σ))
  (fun z ps => fin d e k (Zke z (ps.map fun (o, s, x) => (o, s, evF e x)) σ))
  (fun m l z ps => Zdt d e k (Zif m l z (ps.map fun (i, x) => (i * m, m, evF e x)) σ))
  (fun m l z ps => fin d e k (Zkf m l z (ps.map fun (i, x) => (i * m, m, evF e x)) σ))
  (fun agg n x => fin d e k (Zk6 agg n (evF e x) σ))
  (fun n a v => Zdt d e k (Zgf n (evF e a) (evF e v) σ))
  (fun x => fin d e k (Zkg (evF e x) σ))
  (fun op x y => fin d e k (Za9 op (evF e x) (evF e y) σ))
  (fun neg sh x y => fin d e k (Zig neg sh (evF e x) (evF e y) σ))
  (fun neg kd x => fin d e k (Zgg neg kd (evF e x) σ))
  (fun neg x y => fin d e k (ZlO neg (evF e x) (evF e y) σ))
  (fun op x => fin d e k (unV op (evF e x) σ))
  (fun kd x => fin d e k (ZnZ kd (evF e x) σ))
  (fun x => fin d e k (Zn0 (evF e x) σ))
  (fun t x => fin d e k (Zqy t (evF e x) σ))
  (fun f xs ys => fin d e k (some (.clo f (xs.map (evF e)) (ys.map (evF e)), σ)))
  (Zdt d e k (some (.map σ.length, σ ++ [.map [] []])))
  (fun m b z l c => Zdt d e k (ZeF m b z (evF e l) (evF e c) σ))
  (fun m x lo hi mx => fin d e k (Zdv m (evF e x) (lo.map (evF e)) (hi.map (evF e)) (mx.map (evF e)) σ))
  (fun x lo hi => fin d e k (Zn1 (evF e x) (lo.map (evF e)) (hi.map (evF e)) σ))
  (fun c m x lo hi => fin d e k (Zih c m (evF e x) (lo.map (evF e)) (hi.map (evF e)) σ))
  (fun off x => fin d e k (Zii off (evF e x) σ))
  (fun off s agg x => fin d e k (Zkh off s agg (evF e x) σ))
  (fun m x i => fin d e k (ZbG m (evF e x) (evF e i) σ))
  (fun c m x i => fin d e k (Zcr c m (evF e x) (evF e i) σ))
  (fun c m agg x i => fin d e k (Zqz c m agg (evF e x) (evF e i) σ))
  (fun x i => fin d e k (ZqA (evF e x) (evF e i) σ))
  (fun sh z ok m i => fin d e k (Zk7 sh z ok (evF e m) (evF e i) σ))
  (fun sh m i v => Zdt d e k (Zn2 sh (evF e m) (evF e i) (evF e v) σ))
  (fun x i => fin d e k (Zn5 (evF e x) i σ))
  (fun kd x => fin d e k (Zi3 kd (evF e x) σ))
  (fun x => fin d e k (Ztv (evF e x) σ))
  (fun m b s x => Zdt d e k (Zbv m b (evF e s) (evF e x) σ))
  (fun m b z s x => Zdt d e k (Zi4 m b z (evF e s) (evF e x) σ))
  (fun m b s x => Zdt d e k (Zi5 m b (evF e s) (evF e x) σ))
  (fun m x y => Zdt d e k (ZqB m (evF e x) (evF e y) σ))
  (fun z x => Zdt d e k (Zr4 z (evF e x) σ))
  (fun sh m i => Zdt d e k (Zk9 sh (evF e m) (evF e i) σ))
  (fun g xs => fin d e k (Zij g (xs.map (evF e)) σ))
  (fun c m x => fin d e k (ZqC c m (evF e x) σ))
  (fun sh z m i => Zdt d e k (Zk8 sh z (evF e m) (evF e i) σ))
  (fun m s v => Zdt d e k (Zn3 (evF e m) (evF e s) (evF e v) σ))
  (fun m b z l c => fin d e k (Zn4 m b z (evF e l) (evF e c) σ))
  (fun z off m => Zdt d e k (allocnV z off m σ))
  (fun p f args => cw p f (args.map (evF e)) σ fun v σ => ZiI e d v fun e => k e σ)
  (fun p x args => ZoR cw p (evF e x) (args.map (evF e)) σ fun v σ => ZiI e d v fun e => k e σ)
  false

def FOk (cw : ZcB) (ce : ZbF) : Prop := ∀ p f args σ k, cw p f args σ k = on2 (ce p f args σ) k

theorem ZiK {d : Option Nat} {e : Env} {k : Env → Sto → Bool} (r : Option (AVal × Sto)) : on2 r (fun v σ => k (put e d v) σ) = on2 (match r with | some (v, σ') => some (put e d v, σ') | none => none) k := by
 cases r <;> rfl

theorem ZoS {cw : ZcB} {ce : ZbF} (h : FOk cw ce) (o : AOper) (e : Env) (σ : Sto) (k : Env → Sto → Bool) : ZgY cw o.dst e σ k o.op = on2 (ZfA ce o e σ) k := by
 obtain ⟨d, op, g, a, r⟩ := o
 have h' : ∀ p f args σ k, cw p f args σ k = on2 (ce p f args σ) k := h
 cases op <;> simp only [ZgY, ZiJ, Zp9, Zr3, Zqa, Zf8, h', ZiK, ZfA]
 case store n a v => simp only [Zc, Zgf, ZbH, List.all_nil, and_true] <;> rfl
 case slice m x lo hi mx => simp only [Zc, ZcJ]; cases lo <;> cases hi <;> cases mx <;> rfl
 case slstr x lo hi => simp only [Zc, ZcJ]; rfl
 case slarr c m x lo hi => simp only [Zc, ZcJ]; rfl
 case mapup sh m i v => simp only [Zc, ZbH, List.all_nil, true_and]; rfl
 case mapent sh z m i => simp only [Zc, ZbH, List.all_nil, true_and]; rfl
 case entst m s v => simp only [Zc, ZbH, List.all_nil, and_true]; rfl
 case append m b s x => simp only [Zc, ZbH, List.all_nil, and_true]; rfl
 case appendF m b s x => simp only [Zc, ZbH, List.all_nil, true_and]; rfl
 case copy m x y => simp only [Zc, ZbH, List.all_nil, true_and]; rfl
 case clear z x => rfl
 case callv p x args =>
  cases ev e x <;> simp only [ZoR] <;> try rfl
  case yld l => cases p <;> simp only [h', ZiK] <;> rfl
  rename_i f first captured
  cases f <;> simp only [h', ZiK] <;> rfl
 all_goals rfl

def Zd1 (cw : ZcB) (os : List AOper) : Env → Sto → (Env → Sto → Bool) → Bool :=
 @List.rec AOper (fun _ => Env → Sto → (Env → Sto → Bool) → Bool) (fun e σ k => k e σ)
  (fun o _ ih e σ k => @Option.casesOn _ (fun _ => Bool) o.guard (ZgY cw o.dst e σ (fun e σ => ih e σ k) o.op)
   (fun g => match ZN o e with
    | some true => ZgY cw o.dst e σ (fun e σ => ih e σ k) o.op
    | some false => ZiI e o.dst ZaY fun e => ih e σ k
    | none => false)) os

theorem Ze2 {cw : ZcB} {ce : ZbF} (h : FOk cw ce) : ∀ (os : List AOper) (e : Env) (σ : Sto) (k : Env → Sto → Bool), Zd1 cw os e σ k = on2 (Zb4 ce os e σ) k
 | [], e, σ, k => rfl
 | o :: os, e, σ, k => by
  have ih := Ze2 h os
  have key : (match ZN o e with
    | some true => ZgY cw o.dst e σ (fun e σ => Zd1 cw os e σ k) o.op
    | some false => ZiI e o.dst ZaY fun e => Zd1 cw os e σ k
    | none => false) = on2 (Zb4 ce (o :: os) e σ) k := by
   simp only [Zb4, ZoS h, ih, Zf8]
   cases ZN o e with
   | none => rfl
   | some b =>
    cases b
    ·rfl
    ·simp only
     cases ZfA ce o e σ with
     | none => rfl
     | some q => rfl
  rw [← key]
  show (@Option.casesOn _ (fun _ => Bool) o.guard (ZgY cw o.dst e σ (fun e σ => Zd1 cw os e σ k) o.op)
   (fun g => match ZN o e with
    | some true => ZgY cw o.dst e σ (fun e σ => Zd1 cw os e σ k) o.op
    | some false => ZiI e o.dst ZaY fun e => Zd1 cw os e σ k
    | none => false)) = _
  obtain ⟨d, op, g, a, r⟩ := o
  cases g with
  | none => rfl
  | some g => rfl

def ZjM (cw : ZcB) (os : List GOp) : Env → Sto → (Env → Sto → Bool) → Bool :=
 @List.rec GOp (fun _ => Env → Sto → (Env → Sto → Bool) → Bool) (fun e σ k => k e σ)
  (fun o _ ih e σ k => match o with
   | .op o => Zd1 cw [o] e σ fun e σ => ih e σ k
   | .gh g => on2 (Zac g e σ) fun e σ => fL e fun e => Zd0 σ fun σ => ih e σ k) os
theorem ZgZ {cw : ZcB} {ce : ZbF} (h : FOk cw ce) : ∀ (os : List GOp) (e : Env) (σ : Sto) (k : Env → Sto → Bool), ZjM cw os e σ k = on2 (ZcH ce os e σ) k
 | [], e, σ, k => rfl
 | .op o :: os, e, σ, k => by
  have ih := ZgZ h os
  show Zd1 cw [o] e σ (fun e σ => ZjM cw os e σ k) = _
  simp only [Ze2 h, ZcH, ih]
  cases Zb4 ce [o] e σ with
  | none => rfl
  | some q => rfl
 | .gh g :: os, e, σ, k => by
  have ih := ZgZ h os
  show on2 (Zac g e σ) (fun e σ => fL e fun e => Zd0 σ fun σ => ZjM cw os e σ k) = _
  simp only [Ze1, ZcA, ZcH, ih]
  cases Zac g e σ with
  | none => rfl
  | some q => rfl

def Zlq (body : Env → Sto → (AExit → Env → Sto → Bool) → Bool) (k : AExit → Env → Sto → Bool) (n : Nat) : Env → Sto → Bool :=
 @Nat.rec (fun _ => Env → Sto → Bool) (fun _ _ => false) (fun _ ih e σ => body e σ fun x e σ => @AExit.casesOn (fun _ => Bool) x (ih e σ) (fun i => k (.exit i) e σ) (k .ret e σ)) n
theorem ZjN {b : Env → Sto → Option (AExit × Env × Sto)} {body : Env → Sto → (AExit → Env → Sto → Bool) → Bool} (h : ∀ e σ k, body e σ k = on3 (b e σ) k) (k : AExit → Env → Sto → Bool) : ∀ (n : Nat) (e : Env) (σ : Sto), Zlq body k n e σ = on3 (Zeu b n e σ) k
 | 0, _, _ => rfl
 | n + 1, e, σ => by
  have ih := ZjN h k n
  show body e σ (fun x e σ => @AExit.casesOn (fun _ => Bool) x (Zlq body k n e σ) (fun i => k (.exit i) e σ) (k .ret e σ)) = _
  simp only [h, Zeu, ih]
  cases b e σ with
  | none => rfl
  | some q =>
   obtain ⟨x, e', σ'⟩ := q
   cases x <;> rfl

def ZcY (cw : ZcB) (n : Nat) (c : ACode) : Env → Sto → (AExit → Env → Sto → Bool) → Bool :=
 @ACode.rec (fun _ => Env → Sto → (AExit → Env → Sto → Bool) → Bool)
  (fun e σ k => k .normal e σ)
  (fun _ ops e σ k => Zd1 cw ops e σ (k .normal))
  (fun ops e σ k => ZjM cw ops e σ (k .normal))
  (fun s ops e σ k => Zd1 cw ops e σ fun e σ => @Bool.casesOn (fun _ => Bool) (ZeH s e) false (k .normal e σ))
  (fun c m ops e σ k => Zd1 cw ops e σ fun e1 σ1 => Zd1 cw (ZaL c m ops) e σ fun e2 σ2 => @Bool.casesOn (fun _ => Bool) (AVal.beqL e2 e1 && Zdf σ2 σ1) false (k .normal e1 σ1))
  (fun _ _ iha ihb e σ k => iha e σ fun x e σ => @AExit.casesOn (fun _ => Bool) x (ihb e σ k) (fun i => k (.exit i) e σ) (k .ret e σ))
  (fun c _ _ iha ihb e σ k => match evF e c with
   | .bool t => @Bool.casesOn (fun _ => Bool) t (ihb e σ k) (iha e σ k)
   | _ => false)
  (fun id _ ih e σ k => ih e σ fun x e σ => @AExit.casesOn (fun _ => Bool) x (k .normal e σ) (fun i => @Bool.casesOn (fun _ => Bool) (Nat.beq i id) (k (.exit i) e σ) (k .normal e σ)) (k .ret e σ))
  (fun _ ih e σ k => Zlq ih k n e σ)
  (fun id e σ k => k (.exit id) e σ)
  (fun e σ k => k .ret e σ)
  (fun _ ih e σ k => ih e σ fun x e' σ' => @AExit.casesOn (fun _ => Bool) x
   (@Bool.casesOn (fun _ => Bool) ((σ'.take σ.length).all (AObj.under σ.length)) false (fL (Zaj σ.length e') fun e' => Zd0 (σ'.take σ.length) fun σ' => k .normal e' σ'))
   (fun i => @Bool.casesOn (fun _ => Bool) ((σ'.take σ.length).all (AObj.under σ.length)) false (fL (Zaj σ.length e') fun e' => Zd0 (σ'.take σ.length) fun σ' => k (.exit i) e' σ'))
   (k .ret e' σ'))
  (fun _ ih e σ k => ih e σ k)
  (fun g e σ k => on2 (Zac g e σ) fun e σ => fL e fun e => Zd0 σ fun σ => k .normal e σ)
  (fun x ps body _ e σ k => match evF e x with
   | .clo (.func g) first captured => Ze0 σ.length fun o => cw false g (first ++ [.yld o] ++ captured) (σ ++ [.loop ps body e .ready]) fun _ σ' => on3 (Zdg o e σ') fun x e σ => Zd0 σ fun σ => k x e σ
   | _ => false) c

def ZiL (cw : ZcB) (n : Nat) (args : List AVal) (σ : Sto) (k : AVal → Sto → Bool) : Bool :=
 match args with
 | .yld o :: ys =>
  match σ[o]? with
  | some (.loop ps body e .ready) =>
   @Bool.casesOn (fun _ => Bool) (Nat.beq ys.length ps.length) false (fL (Zb6 e ps ys) fun e' => Zd0 (σ.set o (.loop ps body e .busy)) fun σ => ZcY cw n body e' σ fun x _ σ' => on2 (Zev o x σ') fun v σ => fV v fun v => Zd0 σ fun σ => k v σ)
  | _ => false
 | _ => false

theorem Zg0 {cw : ZcB} {ce : ZbF} (h : FOk cw ce) (n : Nat) : ∀ (c : ACode) (e : Env) (σ : Sto) (k : AExit → Env → Sto → Bool), ZcY cw n c e σ k = on3 (ZF ce n c e σ) k := by
 intro c
 induction c with
 | skip => intro e σ k; rfl
 | region d ops => intro e σ k; show Zd1 cw ops e σ (k .normal) = _; simp only [ZF, Ze2 h]; cases Zb4 ce ops e σ <;> rfl
 | regionG ops => intro e σ k; show ZjM cw ops e σ (k .normal) = _; simp only [ZF, ZgZ h]; cases ZcH ce ops e σ <;> rfl
 | regionA c m ops =>
  intro e σ k
  show Zd1 cw ops e σ (fun e1 σ1 => Zd1 cw (ZaL c m ops) e σ fun e2 σ2 => @Bool.casesOn (fun _ => Bool) (AVal.beqL e2 e1 && Zdf σ2 σ1) false (k .normal e1 σ1)) = _
  simp only [ZF, Ze2 h]
  cases Zb4 ce ops e σ with
  | none => rfl
  | some q =>
   obtain ⟨e', σ'⟩ := q
   simp only [on2]
   cases Zb4 ce (ZaL c m ops) e σ with
   | none => rfl
   | some q2 =>
    obtain ⟨e2, σ2⟩ := q2
    simp only
    cases AVal.beqL e2 e' && Zdf σ2 σ'
    ·simp; rfl
    ·simp; rfl
 | regionD s ops =>
  intro e σ k
  show Zd1 cw ops e σ (fun e σ => @Bool.casesOn (fun _ => Bool) (ZeH s e) false (k .normal e σ)) = _
  simp only [ZF, Ze2 h]
  cases Zb4 ce ops e σ with
  | none => rfl
  | some q =>
   obtain ⟨e', σ'⟩ := q
   simp only [on2]
   cases hs : ZeH s e'
   ·simp; rfl
   ·simp; rfl
 | seq a b iha ihb =>
  intro e σ k
  show ZcY cw n a e σ (fun x e σ => @AExit.casesOn (fun _ => Bool) x (ZcY cw n b e σ k) (fun i => k (.exit i) e σ) (k .ret e σ)) = _
  simp only [ZF, iha, ihb]
  cases ZF ce n a e σ with
  | none => rfl
  | some q =>
   obtain ⟨x, e', σ'⟩ := q
   cases x <;> rfl
 | cond c a b iha ihb =>
  intro e σ k
  show (match evF e c with
   | .bool t => @Bool.casesOn (fun _ => Bool) t (ZcY cw n b e σ k) (ZcY cw n a e σ k)
   | _ => false) = _
  simp only [ZF, iha, ihb, ZiJ]
  cases ev e c <;> try rfl
  rename_i t
  cases t <;> rfl
 | block id b ih =>
  intro e σ k
  show ZcY cw n b e σ (fun x e σ => @AExit.casesOn (fun _ => Bool) x (k .normal e σ) (fun i => @Bool.casesOn (fun _ => Bool) (Nat.beq i id) (k (.exit i) e σ) (k .normal e σ)) (k .ret e σ)) = _
  simp only [ZF, ih]
  cases ZF ce n b e σ with
  | none => rfl
  | some q =>
   obtain ⟨x, e', σ'⟩ := q
   cases x with
   | normal => rfl
   | ret => rfl
   | exit i =>
    simp only [on3]
    by_cases hi : i = id
    ·subst hi; simp
    ·have : Nat.beq i id = false := by
      cases hb : Nat.beq i id
      ·rfl
      ·exact absurd (Nat.eq_of_beq_eq_true hb) hi
     simp [this, hi]
 | loop b ih =>
  intro e σ k
  show Zlq (ZcY cw n b) k n e σ = _
  simp only [ZF]
  exact ZjN ih k n e σ
 | scope b ih => intro e σ k; exact ih e σ k
 | exit id => intro e σ k; rfl
 | ret => intro e σ k; rfl
 | trunc b ih =>
  intro e σ k
  show ZcY cw n b e σ (fun x e' σ' => @AExit.casesOn (fun _ => Bool) x
   (@Bool.casesOn (fun _ => Bool) ((σ'.take σ.length).all (AObj.under σ.length)) false (fL (Zaj σ.length e') fun e' => Zd0 (σ'.take σ.length) fun σ' => k .normal e' σ'))
   (fun i => @Bool.casesOn (fun _ => Bool) ((σ'.take σ.length).all (AObj.under σ.length)) false (fL (Zaj σ.length e') fun e' => Zd0 (σ'.take σ.length) fun σ' => k (.exit i) e' σ'))
   (k .ret e' σ')) = _
  simp only [ZF, ih, Ze1, ZcA]
  cases ZF ce n b e σ with
  | none => rfl
  | some q =>
   obtain ⟨x, e', σ'⟩ := q
   cases x with
   | ret => rfl
   | normal => simp only [on3]; cases h : (σ'.take σ.length).all (AObj.under σ.length) <;> simp
   | exit i => simp only [on3]; cases h : (σ'.take σ.length).all (AObj.under σ.length) <;> simp
 | ghost g =>
  intro e σ k
  show on2 (Zac g e σ) (fun e σ => fL e fun e => Zd0 σ fun σ => k .normal e σ) = _
  simp only [ZF, Ze1, ZcA]
  cases Zac g e σ with
  | none => rfl
  | some q => rfl
 | rangeF x ps b ih =>
  intro e σ k
  have h' : ∀ p f args σ k, cw p f args σ k = on2 (ce p f args σ) k := h
  show (match evF e x with
   | AVal.clo (.func g) first captured => Ze0 σ.length fun o => cw false g (first ++ [AVal.yld o] ++ captured) (σ ++ [AObj.loop ps b e .ready]) fun _ σ' => on3 (Zdg o e σ') fun x e σ => Zd0 σ fun σ => k x e σ
   | _ => false) = _
  simp only [ZF, ZiJ, ZiH, ZcA, h']
  cases ev e x <;> try rfl
  rename_i f first captured
  cases f <;> try rfl
  rename_i f
  simp only
  cases ce false f (first ++ [AVal.yld σ.length] ++ captured) (σ ++ [AObj.loop ps b e .ready]) with
  | none => rfl
  | some q => rfl

theorem ZmN {cw : ZcB} {ce : ZbF} (h : FOk cw ce) (n : Nat) (args : List AVal) (σ : Sto) (k : AVal → Sto → Bool) : ZiL cw n args σ k = on2 (Ze3 ce n args σ) k := by
 unfold ZiL Ze3
 cases args with
 | nil => rfl
 | cons y ys =>
  cases y <;> try rfl
  rename_i o
  simp only
  cases hσ : σ[o]? with
  | none => rfl
  | some ob =>
   cases ob <;> try rfl
   rename_i ps body e st
   cases st <;> try rfl
   simp only [Ze1, ZcA, ZhW, Zg0 h]
   by_cases hl : ys.length = ps.length
   ·have hb : Nat.beq ys.length ps.length = true := by rw [hl]; exact Nat.beq_refl _
    rw [if_pos hl, hb]
    simp only
    cases ZF ce n body (Zb6 e ps ys) (σ.set o (.loop ps body e .busy)) with
    | none => rfl
    | some q => rfl
   ·have : Nat.beq ys.length ps.length = false := by
     cases hb : Nat.beq ys.length ps.length
     ·rfl
     ·exact absurd (Nat.eq_of_beq_eq_true hb) hl
    rw [if_neg hl, this]
    rfl

def ZmO (af : AFunc) (k : AVal → Sto → Bool) (x : AExit) (e : Env) (σ : Sto) : Bool :=
 @AExit.casesOn (fun _ => Bool) x (match ZP af.results e σ with | some v => fV v fun v => k v σ | none => false) (fun _ => false) (match ZP af.results e σ with | some v => fV v fun v => k v σ | none => false)

def Zqb (c : Bool) (n : Nat) (k : AVal → Sto → Bool) (v : AVal) (σ : Sto) : Bool :=
 @Bool.casesOn (fun _ => Bool) c (k v σ) (@Bool.casesOn (fun _ => Bool) (v.under n && (σ.take n).all (AObj.under n)) false (Zd0 (σ.take n) fun σ => k v σ))

def ZjO (T : FuncId → Option AFunc) (n : Nat) : ZcB :=
 @Nat.rec (fun _ => ZcB) (fun _ _ _ _ _ => false)
  (fun n ih p f args σ k => @Bool.casesOn (fun _ => Bool) p
   (match T f with
    | some af => fL (Zah af.ntmps args) fun e => ZcY ih n af.code e σ (ZmO af (Zqb af.cut σ.length k))
    | none => @Bool.casesOn (fun _ => Bool) (Nat.beq f Zag) false (ZiL ih n args σ k))
   (match args.mapM (Zn σ Zh) with
    | some as =>
     match T f with
     | some af => fL (Zah af.ntmps as) fun e => ZcY ih n af.code e [] (ZmO af fun v σ' => match Zn σ' Zh v with
      | some v' => @Bool.casesOn (fun _ => Bool) (AVal.pures args || v'.flat) false (fV v' fun v' => k v' σ)
      | none => false)
     | none => false
    | none => false)) n

theorem ZjP (T : FuncId → Option AFunc) : ∀ n, FOk (ZjO T n) (ZaV T n)
 | 0 => by intro p f args σ k; cases p <;> rfl
 | n + 1 => by
  have ih := ZjP T n
  intro p f args σ k
  cases p with
  | false =>
   show (match T f with
    | some af => fL (Zah af.ntmps args) fun e => ZcY (ZjO T n) n af.code e σ (ZmO af (Zqb af.cut σ.length k))
    | none => @Bool.casesOn (fun _ => Bool) (Nat.beq f Zag) false (ZiL (ZjO T n) n args σ k)) = _
   simp only [ZaV, Ze1, Zg0 ih, ZmN ih]
   cases T f with
   | none =>
    by_cases hf : f = Zag
    ·have hb : Nat.beq f Zag = true := by rw [hf]; exact Nat.beq_refl _
     simp only [hb, if_pos hf]
    ·have hb : Nat.beq f Zag = false := by
      cases hb : Nat.beq f Zag
      ·rfl
      ·exact absurd (Nat.eq_of_beq_eq_true hb) hf
     simp only [hb, if_neg hf]
     rfl
   | some af =>
    simp only
    cases ZF (ZaV T n) n af.code (Zah af.ntmps args) σ with
    | none => rfl
    | some q =>
     obtain ⟨x, e, σ'⟩ := q
     have hk : ∀ v, Zqb af.cut σ.length k v σ' = on2 (if af.cut = true then (if v.under σ.length = true ∧ (σ'.take σ.length).all (AObj.under σ.length) = true then some (v, σ'.take σ.length) else none) else some (v, σ')) k := by
      intro v
      simp only [Zqb, ZcA]
      cases af.cut
      ·simp [on2]
      ·cases hu : v.under σ.length <;> cases hs : (σ'.take σ.length).all (AObj.under σ.length) <;> simp [on2]
     cases x <;> simp only [on3, ZmO, ZhW] <;> (try rfl) <;>
     ·cases ZP af.results e σ' with
      | none => rfl
      | some v => simp only [hk]
  | true =>
   show (match args.mapM (Zn σ Zh) with
    | some as =>
     match T f with
     | some af => fL (Zah af.ntmps as) fun e => ZcY (ZjO T n) n af.code e [] (ZmO af fun v σ' => match Zn σ' Zh v with
      | some v' => @Bool.casesOn (fun _ => Bool) (AVal.pures args || v'.flat) false (fV v' fun v' => k v' σ)
      | none => false)
     | none => false
    | none => false) = _
   simp only [ZaV, Ze1, Zg0 ih, ZhW]
   cases args.mapM (Zn σ Zh) with
   | none => rfl
   | some as =>
    cases T f with
    | none => rfl
    | some af =>
     simp only
     cases ZF (ZaV T n) n af.code (Zah af.ntmps as) [] with
     | none => rfl
     | some q =>
      obtain ⟨x, e, σ'⟩ := q
      cases x <;> simp only [on3, ZmO, ZhW] <;> (try rfl) <;>
      ·cases ZP af.results e σ' with
       | none => rfl
       | some v =>
        simp only
        cases Zn σ' Zh v with
        | none => rfl
        | some v' =>
         simp only
         cases h : (AVal.pures args || v'.flat)
         ·have : ¬ (AVal.pures args = true ∨ v'.flat = true) := by simpa using h
          simp [this, on2]
         ·have : (AVal.pures args = true ∨ v'.flat = true) := by simpa using h
          simp [this, on2]

def ZfS (T : FuncId → Option AFunc) (n : Nat) (f : FuncId) (args : List AVal) (same : AVal → Bool) : Bool := ZjO T n true f args [] fun v _ => same v
def AVal.isTrue : AVal → Bool
 | .bool b => b
 | _ => false
end

theorem ZiM {T : FuncId → Option AFunc} {f : FuncId} {n m : Nat} {rs : List ARes} {c : ACode} {b : Bool} {args : List AVal} {same : AVal → Bool} {v : AVal} (hf : T f = some ⟨m, rs, c, b⟩) (hp : AVal.pures args = true) (hs : ∀ u, same u = true → u = v) (h : ZfS T n f args same = true) {lv : List Nat} {σ : Sto} {R : Zs} : Cw T true f args lv σ R ↔ R v σ := by
 have h : ZaV T n true f args [] = some (v, []) := by
  unfold ZfS at h
  rw [ZjP] at h
  cases hc : ZaV T n true f args [] with
  | none => rw [hc] at h; simp [on2] at h
  | some q =>
   obtain ⟨u, τ⟩ := q
   have := ZjQ hc
   subst this
   rw [hc] at h
   rw [hs u h]
 refine Cw.iff_of fun R hR => ?_
 have h1 : Cw T true f args [] [] (fun u τ => u = v ∧ τ = []) := ⟨n, Ze5 T n _ _ _ _ _ _ h _ ⟨rfl, rfl⟩⟩
 have snap : args.mapM (Zn [] Zh) = some args ∧ args.mapM (Zn σ Zh) = some args := by
  have key : ∀ {τ : Sto} {args : List AVal}, AVal.pures args = true → args.mapM (Zn τ Zh) = some args := by
   intro τ args
   induction args with
   | nil => intro _; rfl
   | cons x xs ih =>
    intro h
    simp only [AVal.pures, AVal.namesL, Bool.and_eq_true] at h
    have hx : Zn τ Zh x = some x := by
     unfold Zh
     unfold Zn
     rw [if_pos h.1]
    simp only [List.mapM_cons, hx, ih h.2, Option.pure_def, Option.bind_eq_bind, Option.bind_some]
  exact ⟨key hp, key hp⟩
 rw [ZdM hf snap.1] at h1
 rw [ZdM hf snap.2]
 refine h1.mono fun x e σ' hx => ZbZ (fun u τ hu => ?_) hx
 cases hsn : Zn τ Zh u with
 | none => rw [hsn] at hu; exact hu.elim
 | some v' =>
  rw [hsn] at hu
  obtain ⟨_, rfl, _⟩ := hu
  exact ⟨.inl hp, hR⟩

theorem ZiN {T : FuncId → Option AFunc} {f : FuncId} {n m : Nat} {rs : List ARes} {c : ACode} {b : Bool} {args : List AVal} (hf : T f = some ⟨m, rs, c, b⟩) (hp : AVal.pures args = true) (h : ZfS T n f args AVal.isTrue = true) {lv : List Nat} {σ : Sto} {R : Zs} : Cw T true f args lv σ R ↔ R (.bool true) σ :=
 ZiM hf hp (fun u h => by cases u <;> simp [AVal.isTrue] at h; rw [h]) h

end Go.Abs
