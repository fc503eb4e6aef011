/- Values of a walk: numbers, slices, structs; what the operations do to them. -/
import Derived.Test.YtdiekiajedmaeaaJAbsCore
set_option linter.all false
namespace Go.Abs
open Go

inductive SlF where
  | nil | emp | lst
  deriving DecidableEq, Inhabited

def sv (k : Nat) (f : SlF) (xs : List AVal) : AVal :=
  if xs.isEmpty then (match f with | .nil => .nils | .emp => .emp | .lst => .list k xs) else .list k xs

@[go_sem] theorem Zvt (k : Nat) : sv k .nil [] = .nils := rfl
theorem sv_lst (k : Nat) (xs : List AVal) : sv k .lst xs = .list k xs := by unfold sv; split <;> rfl
theorem Zb2 {p : AVal → Prop} (k : Nat) (f : SlF) (xs : List AVal) (h1 : p (.list k xs)) (h2 : xs = [] → p .nils) (h3 : xs = [] → p .emp) : p (sv k f xs) := by
  unfold sv
  split
  · rename_i h
    have : xs = [] := by simpa using h
    cases f
    · exact h2 this
    · exact h3 this
    · exact h1
  · exact h1

section
variable {σ : Sto} {k : Nat} {f : SlF} {xs : List AVal}

@[go_sem] theorem Zde {p : Nat → Bool} : (sv k f xs).names p = true := Zb2 (p := fun v => v.names p = true) k f xs (by simp [AVal.names]) (fun _ => by simp [AVal.names]) (fun _ => by simp [AVal.names])
@[go_sem] theorem Zvu : (sv k f xs).one = true := Zb2 (p := fun v => v.one = true) k f xs rfl (fun _ => rfl) (fun _ => rfl)
@[go_sem] theorem Zt0 : (sv k f xs).cells = [sv k f xs] := Zb2 (p := fun v => v.cells = [v]) k f xs rfl (fun _ => rfl) (fun _ => rfl)
@[go_sem] theorem ZuV : (sv k f xs).fits 1 = true := Zb2 (p := fun v => v.fits 1 = true) k f xs rfl (fun _ => rfl) (fun _ => rfl)
@[go_sem] theorem Zt1 : (sv k f xs).isUnd = false := Zb2 (p := fun v => v.isUnd = false) k f xs rfl (fun _ => rfl) (fun _ => rfl)

@[go_sem] theorem ZuW : Zi3 .sl (sv k f xs) σ = some (.int .i64 (xs.length : Nat), σ) :=
  Zb2 (p := fun v => Zi3 .sl v σ = some (.int .i64 (xs.length : Nat), σ)) k f xs rfl (fun h => by subst h; rfl) (fun h => by subst h; rfl)
@[go_sem] theorem ZsL : Zi3 .sl (.list k xs) σ = some (.int .i64 (xs.length : Nat), σ) := rfl
@[go_sem] theorem ZsM : Zi3 .sl .nils σ = some (.int .i64 0, σ) := rfl
@[go_sem] theorem Zt2 {s : ByteArray} : Zi3 .str (.str s) σ = some (.int .i64 s.size, σ) := rfl
@[go_sem] theorem Zt3 {o gen off len : Nat} : Zi3 .sl (.ref o gen off len k) σ = match σ[o]? with
  | some (.cells _ cs) => if cs.length = gen then some (.int .i64 len, σ) else none
  | _ => none := rfl

@[go_sem] theorem ZdS {kd : IntKind} {n : Nat} : Zbn (.int kd (n : Int)) = some n := by simp [Zbn]

theorem ZfR {kd : IntKind} {i : Nat} {v : AVal} (h : xs[i]? = some v) : ZbG k (.list k xs) (.int kd (i : Int)) σ = some (.fptr v.cells, σ) := by
  simp [ZbG, Zbn, h]
theorem ZhP {kd : IntKind} {i : Nat} {v : AVal} (h : xs[i]? = some v) : ZbG k (sv k f xs) (.int kd (i : Int)) σ = some (.fptr v.cells, σ) :=
  Zb2 (p := fun s => ZbG k s (.int kd (i : Int)) σ = some (.fptr v.cells, σ)) k f xs (ZfR h) (fun e => by subst e; simp at h) (fun e => by subst e; simp at h)
@[go_sem] theorem ZkJ {α : Type} {g : α → AVal} {l : List α} {kd : IntKind} {i : Nat} (h : i < l.length) : ZbG k (sv k f (l.map g)) (.int kd (i : Int)) σ = some (.fptr (g l[i]).cells, σ) :=
  ZhP (by simp [h])
@[go_sem] theorem ZqQ {α : Type} {g : α → AVal} {l : List α} {kd : IntKind} {i : Nat} (h : i < l.length) : ZbG k (.list k (l.map g)) (.int kd (i : Int)) σ = some (.fptr (g l[i]).cells, σ) :=
  ZfR (by simp [h])
@[go_sem] theorem ZkK {o gen off len : Nat} {kd : IntKind} {i : Nat} : ZbG k (.ref o gen off len k) (.int kd (i : Int)) σ = match σ[o]? with
      | some (.cells _ cs) => if i < len ∧ cs.length = gen then some (.ptr o gen (off + i * k), σ) else none
      | _ => none := by
  simp only [ZbG, ZdS]
  cases σ[o]? with
  | none => rfl
  | some ob => cases ob <;> simp

@[go_sem] theorem ZrB {agg : Bool} {m : Nat} {cs : List AVal} : Zk6 agg m (.fptr cs) σ = (ZaM agg m cs).map (·, σ) := rfl
@[go_sem] theorem ZsN {agg : Bool} {m o gen off : Nat} : Zk6 agg m (.ptr o gen off) σ = match σ[o]? with
    | some (.cells _ cs) => if cs.length = gen then (ZaM agg m (cs.drop off)).map (·, σ) else none
    | _ => none := rfl
@[go_sem] theorem ZrC {m o gen off : Nat} {v : AVal} : Zgf m (.ptr o gen off) v σ = match σ[o]? with
    | some (.cells nl cs) => if cs.length = gen ∧ off + m ≤ gen ∧ v.fits m then some (.und, σ.set o (.cells nl (Zl cs off v.cells))) else none
    | _ => none := rfl
@[go_sem] theorem ZrD {m : Nat} {c : AVal} {cs : List AVal} : ZaM false m (c :: cs) = some c := rfl
@[go_sem] theorem ZsO {m : Nat} {cs : List AVal} : ZaM true m cs = if m ≤ cs.length then some (.agg (cs.take m)) else none := rfl

@[go_sem] theorem ZsP {kd : IntKind} {n : Int} : (AVal.int kd n).cells = [.int kd n] := rfl
@[go_sem] theorem ZrE {b : Bool} : (AVal.bool b).cells = [.bool b] := rfl
@[go_sem] theorem ZsQ {s : ByteArray} : (AVal.str s).cells = [.str s] := rfl
@[go_sem] theorem ZsR {cs : List AVal} : (AVal.agg cs).cells = cs := rfl
@[go_sem] theorem ZrF : (AVal.list k xs).cells = [.list k xs] := rfl
@[go_sem] theorem ZrG : AVal.nils.cells = [.nils] := rfl

@[go_sem] theorem Zt4 {kd : IntKind} {a b : Int} : Za9 .lss (.int kd a) (.int kd b) σ = some (.bool (decide (a < b)), σ) := by simp [Za9, ZcE, Zbe]
@[go_sem] theorem Zt5 {kd : IntKind} {a b : Int} : Za9 .leq (.int kd a) (.int kd b) σ = some (.bool (decide (a ≤ b)), σ) := by simp [Za9, ZcE, Zbe]
@[go_sem] theorem Zt6 {kd : IntKind} {a b : Int} : Za9 .gtr (.int kd a) (.int kd b) σ = some (.bool (decide (b < a)), σ) := by simp [Za9, ZcE, Zbe]
@[go_sem] theorem Zt7 {kd : IntKind} {a b : Int} : Za9 .geq (.int kd a) (.int kd b) σ = some (.bool (decide (b ≤ a)), σ) := by simp [Za9, ZcE, Zbe]
@[go_sem] theorem Zt8 {kd : IntKind} {a b : Int} : Za9 .eql (.int kd a) (.int kd b) σ = some (.bool (decide (a = b)), σ) := by simp [Za9, ZcE, Zbe]; rfl
@[go_sem] theorem Zt9 {kd : IntKind} {a b : Int} : Za9 .neq (.int kd a) (.int kd b) σ = some (.bool (!decide (a = b)), σ) := by simp [Za9, ZcE, Zbe]; rfl
@[go_sem] theorem Zua {kd : IntKind} {a b : Int} : Za9 .add (.int kd a) (.int kd b) σ = some (.int kd (kd.wrap (a + b)), σ) := by simp [Za9, ZcE, Zbe]
@[go_sem] theorem Zub {kd : IntKind} {a b : Int} : Za9 .sub (.int kd a) (.int kd b) σ = some (.int kd (kd.wrap (a - b)), σ) := by simp [Za9, ZcE, Zbe]
@[go_sem] theorem Zuc {kd : IntKind} {a b : Int} : Za9 .mul (.int kd a) (.int kd b) σ = some (.int kd (kd.wrap (a * b)), σ) := by simp [Za9, ZcE, Zbe]
@[go_sem] theorem Zud {kd : IntKind} {a b : Int} : Za9 .quo (.int kd a) (.int kd b) σ = if b = 0 then none else some (.int kd (kd.wrap (a.tdiv b)), σ) := by
  simp only [Za9, ZcE, Zbe, if_true]; split <;> rfl
@[go_sem] theorem Zue {kd : IntKind} {a b : Int} : Za9 .rem (.int kd a) (.int kd b) σ = if b = 0 then none else some (.int kd (a.tmod b), σ) := by
  simp only [Za9, ZcE, Zbe, if_true]; split <;> rfl
@[go_sem] theorem ZuX {b : Bool} : unV .not (.bool b) σ = some (.bool !b, σ) := rfl
@[go_sem] theorem ZuY {kd : IntKind} {a : Int} : unV .neg (.int kd a) σ = some (.int kd (kd.wrap (0 - a)), σ) := rfl

theorem Zi {x : Int} (h1 : -9223372036854775808 ≤ x) (h2 : x < 9223372036854775808) : IntKind.i64.wrap x = x := by
  have e1 : (2 : Int) ^ IntKind.i64.bits = 18446744073709551616 := by decide
  have e2 : (2 : Int) ^ (IntKind.i64.bits - 1) = 9223372036854775808 := by decide
  have e3 : IntKind.i64.signed = true := rfl
  simp only [IntKind.wrap, e1, e2, e3, Bool.true_and]
  split
  · rename_i h; simp at h; omega
  · rename_i h; simp at h; omega

def Ret (rs : List ARes) (R : Zs) : Zg := fun x e σ => match x with
  | .exit _ => False
  | _ => match ZP rs e σ with
    | some u => R u σ
    | none => False
def Res (rs : List ARes) (v : AVal) : Zg := Ret rs fun u σ' => Zn σ' Zh u = some v
theorem Zlm {n : Nat} {rs : List ARes} {c : ACode} {b : Bool} {R : Zs} : (fun x e σ => Zcp ⟨n, rs, c, b⟩ x e σ R) = Ret rs R := by
  funext x e σ
  cases x <;> rfl

theorem Zbz {σ : Sto} : ∀ {args : List AVal}, AVal.pures args = true → args.mapM (Zn σ Zh) = some args
  | [], _ => rfl
  | x :: xs, h => by
    simp only [AVal.pures, AVal.namesL, Bool.and_eq_true] at h
    have : Zn σ Zh x = some x := by
      unfold Zh
      unfold Zn
      rw [if_pos h.1]
    simp only [List.mapM_cons, this, Zbz h.2, Option.pure_def, Option.bind_eq_bind, Option.bind_some]

theorem Zt {T : FuncId → Option AFunc} {f : FuncId} {n : Nat} {rs : List ARes} {c : ACode} {args : List AVal} {v : AVal} {b : Bool} (hf : T f = some ⟨n, rs, c, b⟩) (hp : AVal.pures args = true) (hl : args.length ≤ n)
    (h : Run T (Res rs v) [.code c] (mkE n (Zeg 0 args)) []) {lv : List Nat} {σ : Sto} {R : Zs} : Cw T true f args lv σ R ↔ R v σ := by
  have key : ∀ R : Zs, R v σ → Cw T true f args lv σ R := by
    intro R hR
    rw [ZdM hf (Zbz hp), Zi2 _ _ hl]
    refine h.mono fun x e σ' hx => ?_
    have e1 := congrFun (congrFun (congrFun (Zlm (n := n) (rs := rs) (c := c) (b := b) (R := fun u σ'' => match Zn σ'' Zh u with | some v' => (AVal.pures args = true ∨ v'.flat = true) ∧ R v' σ | none => False)) x) e) σ'
    refine e1.mpr ?_
    unfold Res Ret at hx
    unfold Ret
    cases x
    case exit => exact hx.elim
    all_goals
      simp only at hx ⊢
      cases hr : ZP rs e σ' with
      | none => rw [hr] at hx; exact hx.elim
      | some u =>
        rw [hr] at hx
        simp only at hx ⊢
        simp only [hx, hp, true_or, true_and]
        exact hR
  exact Cw.iff_of key

theorem ZS {T : FuncId → Option AFunc} {f : FuncId} {n : Nat} {rs : List ARes} {c : ACode} {args : List AVal} {σ : Sto} (hf : T f = some ⟨n, rs, c, false⟩) (hl : args.length ≤ n) {R : Zs} :
    Cw T false f args [] σ R ↔ Run T (Ret rs R) [.code c] (mkE n (Zeg 0 args)) σ := by
  rw [Zhu hf, Zi2 _ _ hl, Zlm]; rfl

section
variable {rs : List ARes} {v : AVal} {e : Env}
@[go_sem] theorem ZuZ : Res rs v .ret e σ ↔ match ZP rs e σ with
  | some u => Zn σ Zh u = some v
  | none => False := Iff.rfl
@[go_sem] theorem Zu0 {R : Zs} : Ret rs R .ret e σ ↔ match ZP rs e σ with
  | some u => R u σ
  | none => False := Iff.rfl
@[go_sem] theorem ZrH : Res rs v .normal e σ ↔ match ZP rs e σ with
  | some u => Zn σ Zh u = some v
  | none => False := Iff.rfl
@[go_sem] theorem ZrI {R : Zs} : Ret rs R .normal e σ ↔ match ZP rs e σ with
  | some u => R u σ
  | none => False := Iff.rfl
@[go_sem] theorem Zp1 {n t : Nat} {L : List (Nat × AVal)} : ZP [.tmp t] (mkE n L) σ = some (if t < n then Z8 L t else .und) := by
  simp only [ZP, Zhj, Za8, List.mapM_cons, List.mapM_nil, Option.pure_def, Option.bind_eq_bind, Option.bind_some]
@[go_sem] theorem Zp2 {n t t' : Nat} {L : List (Nat × AVal)} : ZP [.tmp t, .tmp t'] (mkE n L) σ = some (.tup [if t < n then Z8 L t else .und, if t' < n then Z8 L t' else .und]) := by
  simp only [ZP, Zhj, Za8, List.mapM_cons, List.mapM_nil, Option.pure_def, Option.bind_eq_bind, Option.bind_some]
end

theorem Zat {p : Nat → Prop} {n : Nat} (last : p n) (step : ∀ i, i < n → p (i + 1) → p i) : ∀ i, i ≤ n → p i := by
  intro i hi
  obtain ⟨d, hd⟩ : ∃ d, d = n - i := ⟨_, rfl⟩
  induction d generalizing i with
  | zero => have : i = n := by omega
            subst this; exact last
  | succ d ih => exact step i (by omega) (ih (i + 1) (by omega) (by omega))

theorem Zj {n : Nat} (h : n < 9223372036854775807) : IntKind.i64.wrap ((n : Int) + 1) = ((n + 1 : Nat) : Int) := by
  rw [Zi (by omega) (by omega)]; omega

@[go_sem] theorem Zu1 {kd : IntKind} {n : Int} : AVal.one (.int kd n) = true := rfl
@[go_sem] theorem Zuf {kd : IntKind} {n : Int} : AVal.fits 1 (.int kd n) = true := rfl
@[go_sem] theorem ZsS {kd : IntKind} {n : Int} : AVal.isUnd (.int kd n) = false := rfl
@[go_sem] theorem Zug {b : Bool} : AVal.one (.bool b) = true := rfl
@[go_sem] theorem ZsT {b : Bool} : AVal.fits 1 (.bool b) = true := rfl
@[go_sem] theorem ZrJ {b : Bool} : AVal.isUnd (.bool b) = false := rfl
@[go_sem] theorem Zu2 {s : ByteArray} : AVal.one (.str s) = true := rfl
@[go_sem] theorem Zuh {s : ByteArray} : AVal.fits 1 (.str s) = true := rfl
@[go_sem] theorem ZsU {s : ByteArray} : AVal.isUnd (.str s) = false := rfl
@[go_sem] theorem Zui  : AVal.one .nils = true := rfl
@[go_sem] theorem ZsV  : AVal.fits 1 .nils = true := rfl
@[go_sem] theorem ZrK  : AVal.isUnd .nils = false := rfl
@[go_sem] theorem Zu3  : AVal.one .emp = true := rfl
@[go_sem] theorem Zuj  : AVal.fits 1 .emp = true := rfl
@[go_sem] theorem ZsW  : AVal.isUnd .emp = false := rfl
@[go_sem] theorem ZsX  : AVal.cells .emp = [.emp] := rfl
@[go_sem] theorem Zuk {k : Nat} {xs : List AVal} : AVal.one (.list k xs) = true := rfl
@[go_sem] theorem ZsY {k : Nat} {xs : List AVal} : AVal.fits 1 (.list k xs) = true := rfl
@[go_sem] theorem ZrL {k : Nat} {xs : List AVal} : AVal.isUnd (.list k xs) = false := rfl
@[go_sem] theorem Zu4 {o g f l k : Nat} : AVal.one (.ref o g f l k) = true := rfl
@[go_sem] theorem Zul {o g f l k : Nat} : AVal.fits 1 (.ref o g f l k) = true := rfl
@[go_sem] theorem ZsZ {o g f l k : Nat} : AVal.isUnd (.ref o g f l k) = false := rfl
@[go_sem] theorem Zs0 {o g f l k : Nat} : AVal.cells (.ref o g f l k) = [(.ref o g f l k)] := rfl
@[go_sem] theorem Zum  : AVal.one .nilp = true := rfl
@[go_sem] theorem Zs1  : AVal.fits 1 .nilp = true := rfl
@[go_sem] theorem ZrM  : AVal.isUnd .nilp = false := rfl
@[go_sem] theorem ZrN  : AVal.cells .nilp = [.nilp] := rfl
@[go_sem] theorem Zun {cs : List AVal} : AVal.one (.fptr cs) = true := rfl
@[go_sem] theorem Zs2 {cs : List AVal} : AVal.fits 1 (.fptr cs) = true := rfl
@[go_sem] theorem ZrO {cs : List AVal} : AVal.isUnd (.fptr cs) = false := rfl
@[go_sem] theorem ZrP {cs : List AVal} : AVal.cells (.fptr cs) = [(.fptr cs)] := rfl
@[go_sem] theorem Zu5 {o g f : Nat} : AVal.one (.ptr o g f) = true := rfl
@[go_sem] theorem Zuo {o g f : Nat} : AVal.fits 1 (.ptr o g f) = true := rfl
@[go_sem] theorem Zs3 {o g f : Nat} : AVal.isUnd (.ptr o g f) = false := rfl
@[go_sem] theorem Zs4 {o g f : Nat} : AVal.cells (.ptr o g f) = [(.ptr o g f)] := rfl
@[go_sem] theorem Zup  : AVal.one .nilm = true := rfl
@[go_sem] theorem Zs5  : AVal.fits 1 .nilm = true := rfl
@[go_sem] theorem ZrQ  : AVal.isUnd .nilm = false := rfl
@[go_sem] theorem ZrR  : AVal.cells .nilm = [.nilm] := rfl
@[go_sem] theorem Zuq {a b : List AVal} : AVal.one (.fmap a b) = true := rfl
@[go_sem] theorem Zs6 {a b : List AVal} : AVal.fits 1 (.fmap a b) = true := rfl
@[go_sem] theorem ZrS {a b : List AVal} : AVal.isUnd (.fmap a b) = false := rfl
@[go_sem] theorem ZrT {a b : List AVal} : AVal.cells (.fmap a b) = [(.fmap a b)] := rfl
@[go_sem] theorem Zu6 {o : Nat} : AVal.one (.map o) = true := rfl
@[go_sem] theorem Zur {o : Nat} : AVal.fits 1 (.map o) = true := rfl
@[go_sem] theorem Zs7 {o : Nat} : AVal.isUnd (.map o) = false := rfl
@[go_sem] theorem Zs8 {o : Nat} : AVal.cells (.map o) = [(.map o)] := rfl
@[go_sem] theorem Zus  : AVal.one .nilf = true := rfl
@[go_sem] theorem Zs9  : AVal.fits 1 .nilf = true := rfl
@[go_sem] theorem ZrU  : AVal.isUnd .nilf = false := rfl
@[go_sem] theorem ZrV  : AVal.cells .nilf = [.nilf] := rfl
@[go_sem] theorem Zu7 {f : Fn} {a b : List AVal} : AVal.one (.clo f a b) = true := rfl
@[go_sem] theorem Zut {f : Fn} {a b : List AVal} : AVal.fits 1 (.clo f a b) = true := rfl
@[go_sem] theorem Zta {f : Fn} {a b : List AVal} : AVal.isUnd (.clo f a b) = false := rfl
@[go_sem] theorem Ztb {f : Fn} {a b : List AVal} : AVal.cells (.clo f a b) = [(.clo f a b)] := rfl
@[go_sem] theorem Zuu  : AVal.one .nili = true := rfl
@[go_sem] theorem Ztc  : AVal.fits 1 .nili = true := rfl
@[go_sem] theorem ZrW  : AVal.isUnd .nili = false := rfl
@[go_sem] theorem ZrX  : AVal.cells .nili = [.nili] := rfl
@[go_sem] theorem Ztd {t : TypeId} {v : AVal} : AVal.one (.iface t v) = true := rfl
@[go_sem] theorem ZrY {t : TypeId} {v : AVal} : AVal.fits 1 (.iface t v) = true := rfl
@[go_sem] theorem ZqR {t : TypeId} {v : AVal} : AVal.isUnd (.iface t v) = false := rfl
@[go_sem] theorem ZqS {t : TypeId} {v : AVal} : AVal.cells (.iface t v) = [(.iface t v)] := rfl
@[go_sem] theorem Zuv {m : Nat} {cs : List AVal} : AVal.fits m (.agg cs) = (cs.length == m && cs.all AVal.one) := rfl
@[go_sem] theorem Zte {cs : List AVal} : AVal.isUnd (.agg cs) = false := rfl
@[go_sem] theorem Zuw {v : AVal} (h : v.one = true) : v.fits 1 = true := by cases v <;> first | rfl | (simp [AVal.one] at h)
@[go_sem] theorem Ztf : AVal.isUnd .und = true := rfl
@[go_sem] theorem Zu8 {cs : List AVal} : AVal.one (.agg cs) = false := rfl

theorem Zeq {σ : Sto} {k : Nat} {f : SlF} {α : Type} {g : α → AVal} {l : List α} {kd : IntKind} {i : Int} (h0 : 0 ≤ i) (h : i.toNat < l.length) : ZbG k (sv k f (l.map g)) (.int kd i) σ = some (.fptr (g l[i.toNat]).cells, σ) := by
  obtain ⟨n, rfl⟩ := Int.eq_ofNat_of_zero_le h0
  exact ZkJ (by simpa using h)
theorem ZkG {off size : Nat} {g : Bool} {cs : List AVal} : Zkh off size g (.agg cs) σ = if off + size ≤ cs.length then (ZaM g size (cs.drop off)).map (·, σ) else none := rfl
theorem ZpY {m : Nat} {v : AVal} : Zq3 m v σ = if v.fits m = true then some (.ptr σ.length m 0, σ ++ [.cells false v.cells]) else none := rfl
theorem Zmo {z : List AVal} {ps : List (Nat × Nat × AVal)} : Zke z ps σ = (Zbw z ps).map fun cs => (.agg cs, σ) := rfl
theorem ZkH {m l : Nat} {z : List AVal} {ps : List (Nat × Nat × AVal)} : Zif m l z ps σ = (Zbw (List.replicate l z).flatten ps).map fun cs => (.ref σ.length cs.length 0 l m, σ ++ [.cells false cs]) := rfl
theorem Zmp {m l : Nat} {z : List AVal} {ps : List (Nat × Nat × AVal)} : Zkf m l z ps σ = (Zbw (List.replicate l z).flatten ps).bind fun cs => if AVal.pures cs = true ∧ cs.length = l * m ∧ 0 < m then some (.list m (ZY m l cs), σ) else none := rfl
theorem Zmq {cs : List AVal} : Zbw cs [] = some cs := rfl
theorem ZkI {cs : List AVal} {off size : Nat} {v : AVal} {rest : List (Nat × Nat × AVal)} : Zbw cs ((off, size, v) :: rest) = if (v.fits size && decide (off + size ≤ cs.length)) = true then Zbw (Zl cs off v.cells) rest else none := rfl
@[go_sem] theorem Zp3 {e : Env} : ZP [] e σ = some (.tup []) := rfl
theorem resultsA_one {r : ARes} {e : Env} : ZP [r] e σ = Zhj e σ r := by
  simp only [ZP, List.mapM_cons, List.mapM_nil, Option.pure_def, Option.bind_eq_bind]
  cases Zhj e σ r <;> rfl
def ZqP (g : Bool) (m : Nat) (v : AVal) (σ : Sto) : Option AVal := match v with
    | .ptr o gen off =>
      match σ[o]? with
      | some (.cells _ cs) => if cs.length = gen then ZaM g m (cs.drop off) else none
      | _ => none
    | _ => none
@[go_sem] theorem Zpu {n t m : Nat} {g : Bool} {L : List (Nat × AVal)} : ZP [.cell t g m] (mkE n L) σ = ZqP g m (if t < n then Z8 L t else AVal.und) σ := by
  rw [resultsA_one]
  simp only [Zhj, Za8]
  rfl
@[go_sem] theorem Ztg {g : Bool} {m o gen off : Nat} : ZqP g m (.ptr o gen off) σ = match σ[o]? with
      | some (.cells _ cs) => if cs.length = gen then ZaM g m (cs.drop off) else none
      | _ => none := rfl

attribute [go_sem] beq_self_eq_true Nat.lt_irrefl Int.lt_irrefl Bool.not_not ZkG ZpY Zmo ZkH Zmp Option.bind_some Zmq ZkI Zl Int.cast_ofNat_Int Int.toNat_natCast Int.natCast_nonneg List.getElem?_cons_zero List.getElem?_cons_succ List.set_cons_zero List.set_cons_succ AObj.under
  List.replicate_succ List.replicate_zero List.flatten_cons List.flatten_nil List.append_nil List.take_nil List.drop_nil List.drop_eq_nil_of_le
attribute [go_sem] AVal.names AVal.namesL Option.map_some Option.map_none decide_eq_true_eq decide_eq_false_iff_not List.length_map Int.ofNat_lt Option.some.injEq AVal.bool.injEq AVal.int.injEq AVal.agg.injEq
  List.length_cons List.length_nil List.cons_append List.nil_append List.drop_zero List.drop_succ_cons List.take_succ_cons List.take_zero List.map_cons List.map_nil List.all_cons List.all_nil
  Bool.not_true Bool.not_false Bool.and_true Bool.true_and Bool.and_false Bool.false_and Bool.or_true Bool.true_or Bool.or_false Bool.false_or Bool.not_eq_true' Bool.not_eq_eq_eq_not Bool.false_eq_true Bool.true_eq_false
  eq_self if_true if_false ite_self and_true true_and and_false false_and not_true_eq_false not_false_eq_true decide_true decide_false

theorem Zcm {p : Nat → Bool} : ∀ {xs ys : List AVal}, AVal.namesL p (xs ++ ys) = (AVal.namesL p xs && AVal.namesL p ys)
  | [], ys => by simp [AVal.namesL]
  | x :: xs, ys => by simp [AVal.namesL, Zcm (xs := xs), Bool.and_assoc]
theorem Zb3 {α : Type} {p : Nat → Bool} {g : α → AVal} (h : ∀ x, (g x).names p = true) : ∀ (l : List α), AVal.namesL p (l.map g) = true
  | [] => rfl
  | x :: l => by simp only [List.map_cons, AVal.namesL, h x, Zb3 h l, Bool.and_self]
theorem ZaF {α : Type} {p : Nat → Bool} {g : α → List AVal} (h : ∀ x, AVal.namesL p (g x) = true) : ∀ (l : List α), AVal.namesL p (l.flatMap g) = true
  | [] => rfl
  | x :: l => by simp only [List.flatMap_cons, Zcm, h x, ZaF h l, Bool.and_self]
@[go_sem] theorem ZiF {p : Nat → Bool} {kd : IntKind} {l : List Int} : AVal.namesL p (l.map fun x => .int kd x) = true := Zb3 (fun _ => rfl) l
attribute [go_sem] Zcm

@[go_sem] theorem Zth {o gen off len k : Nat} : Zai σ (.ref o gen off len k) = match σ[o]? with
    | some (.cells _ cs) => if cs.length = gen then some (len, (cs.drop off).take (len * k)) else none
    | _ => none := rfl
theorem ZoL {k : Nat} {f : SlF} {xs : List AVal} : Zai σ (sv k f xs) = some (xs.length, xs.flatMap AVal.cells) :=
  Zb2 (p := fun v => Zai σ v = some (xs.length, xs.flatMap AVal.cells)) k f xs rfl (fun h => by subst h; rfl) (fun h => by subst h; rfl)
theorem ZjI {α : Type} {g : α → AVal} (h : ∀ x, (g x).one = true) : ∀ (l : List α), (l.map g).flatMap AVal.cells = l.map g
  | [] => rfl
  | x :: l => by
    have hx : (g x).cells = [g x] := by
      have := h x
      cases hg : g x <;> simp [hg, AVal.one] at this <;> rfl
    simp only [List.map_cons, List.flatMap_cons, hx, ZjI h l, List.cons_append, List.nil_append]
@[go_sem] theorem ZrZ {f : SlF} {c : List Int} : Zai σ (sv 1 f (c.map fun n => AVal.int .i64 n)) = some (c.length, c.map fun n => AVal.int .i64 n) := by
  rw [ZoL, ZjI (fun _ => rfl), List.length_map]

theorem Zer {o : Nat} {ob : AObj} {σ : Sto} (h : σ[o]? = some ob) : σ.set o ob = σ := by
  apply List.ext_getElem?
  intro i
  rw [List.getElem?_set]
  split
  · rename_i e; subst e; rw [h]; simp [(List.getElem?_eq_some_iff.1 h).1]
  · rfl

theorem Zcc {o k bytes gen len m : Nat} {nl : Bool} {cs new : List AVal} {x : AVal} (hσ : σ[o]? = some (.cells nl cs)) (hr : Zai σ x = some (m, new)) (hl : cs.length = gen) (hg : gen = len * k) (hn : new.length = m * k) (hk : 0 < k) (h1 : new.all AVal.one = true)
    (hb : (len + m) * bytes ≤ Zm) : Zbv k bytes (.ref o gen 0 len k) x σ = some (.ref o (gen + m * k) 0 (len + m) k, σ.set o (.cells nl (cs ++ new))) := by
  have e : (len + m) * k = len * k + m * k := Nat.add_mul ..
  by_cases hm : m = 0
  · subst hm
    have hnew : new = [] := List.eq_nil_of_length_eq_zero (by simpa using hn)
    subst hnew
    simp only [Zbv, hr, hσ, hl]
    simp only [List.append_nil, Zer hσ, Nat.zero_mul, Nat.add_zero]
    simp [hk]
  · have hpos : 0 < m * k := Nat.mul_pos (by omega) hk
    have hle : ¬ (0 + (len + m) * k ≤ gen) := by omega
    have htake : cs.take (len * k) = cs := List.take_of_length_le (by omega)
    simp only [Zbv, hr, hσ, hl, hn, h1, hk, hm, hle, hb, htake, true_and, and_true, if_true, if_false, if_neg hle]
    simp [e, hg]

theorem Zdd {o o' bytes n : Nat} {nl nl' : Bool} {cs : List AVal} {v : AVal} (hσ : σ[o]? = some (.cells nl cs)) (hx : σ[o']? = some (.cells nl' [v])) (hl : cs.length = n) (h1 : v.one = true) (hb : (n + 1) * bytes ≤ Zm) :
    Zbv 1 bytes (.ref o n 0 n 1) (.ref o' 1 0 1 1) σ = some (.ref o (n + 1) 0 (n + 1) 1, σ.set o (.cells nl (cs ++ [v]))) := by
  have := Zcc (σ := σ) (x := .ref o' 1 0 1 1) (k := 1) (m := 1) (bytes := bytes) (new := [v]) hσ (by simp [Zai, hx]) hl (by simp) (by simp) (by decide) (by simp [h1]) hb
  simpa using this

theorem ZcW : ∀ (cs : List AVal), ZY 1 cs.length cs = cs
  | [] => rfl
  | c :: cs => by simp only [List.length_cons, ZY, if_true, List.headD_cons, List.drop_succ_cons, List.drop_zero, ZcW cs]
theorem Zea {α : Type} {k : Nat} (hk : k ≠ 1) {g : α → List AVal} (h : ∀ x, (g x).length = k) : ∀ (l : List α), ZY k l.length (l.flatMap g) = l.map fun x => .agg (g x)
  | [] => rfl
  | x :: l => by
    have e1 : (g x ++ l.flatMap g).take k = g x := by rw [← h x]; simp
    have e2 : (g x ++ l.flatMap g).drop k = l.flatMap g := by rw [← h x]; simp
    simp only [List.length_cons, ZY, if_neg hk, List.flatMap_cons, e1, e2, Zea hk h l, List.map_cons]
theorem Zcy {α : Type} {k : Nat} {g : α → List AVal} (h : ∀ x, (g x).length = k) : ∀ (l : List α), (l.flatMap g).length = l.length * k
  | [] => by simp
  | x :: l => by simp only [List.flatMap_cons, List.length_append, h x, Zcy h l, List.length_cons, Nat.add_mul, Nat.one_mul]; omega

theorem Zbg {n : Nat} {v : AVal} (h : v.pure = true) : Zn σ (n + 1) v = some v := by unfold Zn; rw [if_pos h]
theorem Zbh {n : Nat} : ∀ {cs : List AVal}, AVal.pures cs = true → cs.mapM (Zn σ (n + 1)) = some cs
  | [], _ => rfl
  | x :: xs, h => by
    simp only [AVal.pures, AVal.namesL, Bool.and_eq_true] at h
    simp only [List.mapM_cons, Zbg h.1, Zbh h.2, Option.pure_def, Option.bind_eq_bind, Option.bind_some]
theorem ZgR {n o gen len k : Nat} {cs : List AVal} (hσ : σ[o]? = some (.cells false cs)) (hl : cs.length = gen) (hg : gen = len * k) (hk : 0 < k) (hp : AVal.pures cs = true) : Zn σ (n + 2) (.ref o gen 0 len k) = some (.list k (ZY k len cs)) := by
  have h0 : (AVal.ref o gen 0 len k).pure = false := by simp [AVal.names]
  rw [Zn, h0]
  have htake : cs.take (len * k) = cs := List.take_of_length_le (by omega)
  simp only [Bool.false_eq_true, if_false, hσ, hl, hk, Nat.zero_add, ← hg, Nat.le_refl, true_and, and_true, if_true, Bool.false_and, List.drop_zero]
  rw [hg, htake, Zbh hp]
  rfl
theorem Zmr {n : Nat} {cs : List AVal} : Zn σ (n + 2) (.agg cs) = (cs.mapM (Zn σ (n + 1))).map .agg := by
  by_cases h : AVal.pures cs = true
  · rw [Zbg (by simpa only [AVal.names] using h), Zbh h]; rfl
  · have h0 : ¬ (AVal.agg cs).pure = true := by simpa only [AVal.names] using h
    rw [Zn, if_neg h0]
theorem Zms {n : Nat} {cs : List AVal} : Zn σ (n + 2) (.tup cs) = (cs.mapM (Zn σ (n + 1))).map .tup := by
  by_cases h : AVal.pures cs = true
  · rw [Zbg (by simpa only [AVal.names] using h), Zbh h]; rfl
  · have h0 : ¬ (AVal.tup cs).pure = true := by simpa only [AVal.names] using h
    rw [Zn, if_neg h0]
theorem ZiE : Zh = 64 := rfl
theorem ZhQ {f : AVal → Option AVal} : [].mapM f = some [] := rfl
theorem Zes {f : AVal → Option AVal} {x : AVal} {xs : List AVal} : (x :: xs).mapM f = match f x with
    | some y => (match xs.mapM f with
      | some ys => some (y :: ys)
      | none => none)
    | none => none := by
  simp only [List.mapM_cons, Option.pure_def, Option.bind_eq_bind]
  cases f x with
  | none => rfl
  | some y => simp only [Option.bind_some]; cases xs.mapM f <;> rfl
attribute [go_sem] Zmr Zms ZiE ZhQ Zes Zbg
theorem Zfz {n o : Nat} {c : List Int} (hσ : σ[o]? = some (.cells false (c.map fun n => AVal.int .i64 n))) : Zn σ (n + 2) (.ref o c.length 0 c.length 1) = some (sv 1 .lst (c.map fun n => AVal.int .i64 n)) := by
  rw [ZgR hσ (by simp) (by simp) (by decide) ZiF, sv_lst]
  have := ZcW (c.map fun n => AVal.int .i64 n)
  rw [List.length_map] at this
  rw [this]

theorem ZpZ {T : FuncId → Option AFunc} {f : FuncId} {n : Nat} {rs : List ARes} {c : ACode} {b : Bool} (hf : T f = some ⟨n, rs, c, b⟩) {args as : List AVal} {v : AVal} (h : ∀ {lv : List Nat} {σ : Sto} {R : Zs}, Cw T true f as lv σ R ↔ R v σ) (hs : args.mapM (Zn σ Zh) = some as) (hp : AVal.pures as = true) (hv : v.flat = true)
    {lv : List Nat} {R : Zs} : Cw T true f args lv σ R ↔ R v σ := by
  refine Cw.iff_of fun R hR => ?_
  rw [ZdM hf hs]
  have h1 : Cw T true f as lv σ (fun u τ => u = v ∧ τ = σ) := h.2 ⟨rfl, rfl⟩
  rw [ZdM hf (Zbz hp)] at h1
  refine h1.mono fun x e σ' hx => ZbZ (fun u τ hu => ?_) hx
  cases hsn : Zn τ Zh u with
  | none => rw [hsn] at hu; exact hu.elim
  | some v' =>
    rw [hsn] at hu
    obtain ⟨_, rfl, _⟩ := hu
    exact ⟨.inr hv, hR⟩
theorem Zbi {T : FuncId → Option AFunc} {Q : Zg} {k : List Item} {os : List AOper} {d : Option Nat} {e : Env} {f : FuncId} {n : Nat} {rs : List ARes} {c : ACode} {b : Bool} (hf : T f = some ⟨n, rs, c, b⟩) {args as : List AVal} {v : AVal} (h : ∀ {lv : List Nat} {σ : Sto} {R : Zs}, Cw T true f as lv σ R ↔ R v σ) (hs : args.mapM (Zn σ Zh) = some as) (hp : AVal.pures as = true) (hv : v.flat = true) :
    Zp T Q k os d e σ true f args ↔ Run T Q (.ops os :: k) (put e d v) σ := ZpZ hf h hs hp hv

theorem ZgS {x : AObj} : (σ ++ [x])[σ.length]? = some x := by simp
theorem ZgT {x y : AObj} : (σ ++ [x]).set σ.length y = σ ++ [y] := by
  rw [List.set_append_right _ _ (Nat.le_refl _)]; simp
@[go_sem] theorem Zr0 {α : Type} {m i : Nat} {g : α → AVal} {l : List α} (h : i < l.length) : ZaM false m ((l.map g).drop i) = some (g l[i]) := by
  rw [List.drop_eq_getElem_cons (by simpa using h)]
  simp [ZaM]
theorem Zhm {α : Type} {i : Nat} {g : α → AVal} {l : List α} {v : α} (h : i < l.length) : Zl (l.map g) i [g v] = (l.set i v).map g := by
  unfold Zl
  rw [List.map_set, List.set_eq_take_append_cons_drop, if_pos (by simpa using h)]
  simp
@[go_sem] theorem Zti {i : Nat} {kd : IntKind} {l : List Int} {v : Int} (h : i < l.length) : ((l.map fun n => AVal.int kd n).take i ++ [AVal.int kd v] ++ (l.map fun n => AVal.int kd n).drop (i + 1)) = (l.set i v).map fun n => AVal.int kd n := by
  have := Zhm (g := fun n => AVal.int kd n) (l := l) (v := v) h
  simpa [Zl] using this
attribute [go_sem] Nat.zero_add Nat.mul_one Nat.add_zero ne_eq

theorem Zeb {α : Type} {v : α} : ∀ {o : List α} {i : Nat}, i < o.length → (o.set i v).take (i + 1) = o.take i ++ [v]
  | [], i, h => by simp at h
  | x :: o, 0, h => by simp
  | x :: o, i + 1, h => by
    simp only [List.set_cons_succ, List.take_succ_cons, List.cons_append]
    rw [Zeb (by simpa using h)]
theorem Zbc {n : Nat} (h : n < 9223372036854775808) : IntKind.i64.wrap ((n : Nat) : Int) = (n : Int) := Zi (by omega) (by omega)
theorem Zp0 {x : Int} (h1 : 0 ≤ x) (h2 : x < 256) : IntKind.u8.wrap x = x := by
  have e1 : (2 : Int) ^ IntKind.u8.bits = 256 := by decide
  have e3 : IntKind.u8.signed = false := rfl
  simp only [IntKind.wrap, e1, e3, Bool.false_and]
  simp
  omega
@[go_sem] theorem Ztj {g a b : Bool} : Zig g .bool (.bool a) (.bool b) σ = some (.bool (if g = true then !(a == b) else (a == b)), σ) := by cases g <;> rfl
@[go_sem] theorem Zux {g : Bool} {kd : IntKind} {a b : Int} : Zig g (.int kd) (.int kd a) (.int kd b) σ = some (.bool (if g = true then !(decide (a = b)) else decide (a = b)), σ) := by
  have : eqA (.int kd) (.int kd a) (.int kd b) = some (decide (a = b)) := by simp [eqA]; rfl
  simp only [Zig, this]
  cases g <;> rfl

theorem ZgU {α : Type} {o o' k bytes : Nat} {g : α → List AVal} {X : List α} {y : α} (hk : 0 < k) (hg : ∀ x, (g x).length = k) (h1 : ∀ x, (g x).all AVal.one = true) (hσ : σ[o]? = some (.cells false (X.flatMap g))) (hσ' : σ[o']? = some (.cells false (g y))) (hb : (X.length + 1) * bytes ≤ Zm) :
    Zbv k bytes (.ref o (X.length * k) 0 X.length k) (.ref o' k 0 1 k) σ = some (.ref o ((X ++ [y]).length * k) 0 (X ++ [y]).length k, σ.set o (.cells false ((X ++ [y]).flatMap g))) := by
  rw [Zcc (m := 1) (new := g y) hσ (by have := List.take_of_length_le (Nat.le_of_eq (hg y)); simp [Zai, hσ', hg, this]) (Zcy hg X) rfl (by simp [hg]) hk (h1 y) hb, List.flatMap_append, List.length_append]
  simp [Nat.add_mul]
end
end Go.Abs
