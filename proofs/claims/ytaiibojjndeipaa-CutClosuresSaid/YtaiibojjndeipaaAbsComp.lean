/- The model's operations, read as the abstract machine's. -/
import Derived.Test.YtaiibojjndeipaaAbsSnap
set_option linter.all false
namespace Go.Abs
open Go

def scal : Value → Option AVal
  | .bool b => some (.bool b)
  | .int k n => some (.int k n)
  | .string s => some (.str s)
  | .slice none 0 0 => some .nils
  | .pointer none => some .nilp
  | .map none => some .nilm
  | .nilFunc => some .nilf
  | .nilIface => some .nili
  | _ => none

def valA (v : Value) : Option AVal :=
  match v with
  | .agg cs => (cs.toList.mapM scal).map .agg
  | v => scal v

def opdA : Operand → Option Opd
  | .tmp t => some (.tmp t)
  | .const v => (valA v).map .cst
  | .func f => some (.cst (.clo (.func f) [] []))
  | .global _ => none

def szOf (P : Program) (t : TypeId) : Option Nat := (P.info? t).map (·.size)
def bytesOf (P : Program) (t : TypeId) : Option Nat := (P.info? t).map (·.bytes)
def isAggD : TypeDesc → Bool
  | .struct _ | .array _ _ => true
  | _ => false
def aggT (P : Program) (t : TypeId) : Option Bool := (P.underlying t).map isAggD
def zeroC (P : Program) (t : TypeId) : Option (List AVal) :=
  match P.info? t with
  | some i => match i.zero with
    | some z => z.cells.toList.mapM scal
    | none => none
  | none => none
def zeroV (P : Program) (t : TypeId) : Option AVal :=
  match P.info? t with
  | some i => match i.zero with
    | some z => valA z
    | none => none
  | none => none

def shapeOf (P : Program) : Nat → TypeId → Option Shape
  | 0, _ => none
  | n + 1, t =>
    match P.underlying t with
    | some .bool => some .bool
    | some (.int k) => some (.int k)
    | some .string => some .str
    | some (.struct fields) =>
      if P.stoodInHeld t then none else
      (fields.toList.mapM fun (f : Field) =>
        if f.name == "_" then none else
        match P.info? f.type, aggT P f.type, shapeOf P n f.type with
        | some i, some ag, some sh => some (f.offset, i.size, ag, sh)
        | _, _, _ => none).map .row
    | some (.array len elem) =>
      match P.info? elem, aggT P elem, shapeOf P n elem with
      | some i, some ag, some sh => some (.row ((List.range len).map fun j => (j * i.size, i.size, ag, sh)))
      | _, _, _ => none
    | _ => none

def nilConst : NilK → Operand → Bool
  | .sl, .const (.slice none 0 0) => true
  | .pt, .const (.pointer none) => true
  | .mp, .const (.map none) => true
  | .fn, .const .nilFunc => true
  | _, _ => false

def nilKind : TypeDesc → Option NilK
  | .slice _ => some .sl
  | .map _ _ => some .mp
  | .func _ _ _ => some .fn
  | .pointer _ => some .pt
  | _ => none

def opdsA (xs : Array Operand) : Option (List Opd) := xs.toList.mapM opdA
def optA : Option Operand → Option (Option Opd)
  | none => some none
  | some x => (opdA x).map some

def cEq (P : Program) (neg : Bool) (op : BinOp) (t : TypeId) (x y : Operand) : Option AOp :=
  match P.underlying t with
  | some (.int _) | some .string => match opdA x, opdA y with | some a, some b => some (.bin op a b) | _, _ => none
  | some .bool | some (.struct _) | some (.array _ _) =>
    match shapeOf P 20 t, opdA x, opdA y with
    | some sh, some a, some b => if P.eqGuardType P.depth t then none else some (.eqs neg sh a b)
    | _, _, _ => none
  | some d =>
    match nilKind d with
    | some kd => if nilConst kd x then (opdA y).map (.eqnil neg kd) else if nilConst kd y then (opdA x).map (.eqnil neg kd) else none
    | none => none
  | none => none

def cBuiltin (P : Program) (b : Builtin) (ts : Array TypeId) (args : List Opd) : Option AOp :=
  match b, args with
  | .len, [x] =>
    match (ts[0]?).bind P.underlying with
    | some .string => some (.len .str x)
    | some (.slice _) => some (.len .sl x)
    | some (.map _ _) => some (.len .mp x)
    | _ => none
  | .cap, [x] =>
    match (ts[0]?).bind P.underlying with
    | some (.slice _) => some (.cap x)
    | _ => none
  | .append, [s, x] =>
    match (ts[0]?).bind P.underlying, (ts[1]?).bind P.underlying with
    | some (.slice e), some (.slice _) =>
      match P.info? e, zeroC P e with
      | some i, some z => if z.length = i.size ∧ 0 < i.bytes then some (.append i.size i.bytes s x) else none
      | _, _ => none
    | some (.slice e), some (.int _) =>
      match P.info? e, zeroC P e with
      | some i, some z => if z.length = i.size ∧ 0 < i.bytes then some (.appendz i.size i.bytes z s x) else none
      | _, _ => none
    | _, _ => none
  | .copy, [d, s] =>
    match (ts[0]?).bind P.underlying with
    | some (.slice e) => (szOf P e).map fun k => .copy k d s
    | _ => none
  | .clear, [x] =>
    match (ts[0]?).bind P.underlying with
    | some (.slice e) => (zeroC P e).map fun z => .clear z x
    | _ => none
  | .delete, [m, k] =>
    match (ts[0]?).bind P.underlying with
    | some (.map kt _) => (shapeOf P 20 kt).map fun sh => .delete sh m k
    | _ => none
  | .min, xs => some (.minmax false xs)
  | .max, xs => some (.minmax true xs)
  | _, _ => none

def cPart (P : Program) (fields : Array Field) (p : Nat × Operand) : Option (Nat × Nat × Opd) :=
  match fields[p.1]? with
  | some f => match szOf P f.type, opdA p.2 with
    | some n, some x => some (f.offset, n, x)
    | _, _ => none
  | none => none
def cPartA (n : Nat) (p : Nat × Operand) : Option (Nat × Nat × Opd) := (opdA p.2).map fun x => (p.1 * n, n, x)
def cPartS (p : Nat × Operand) : Option (Nat × Opd) := (opdA p.2).map fun x => (p.1, x)

def cOp (P : Program) (o : Oper) : Option AOp :=
  match o.op with
  | .move x | .assign x => (opdA x).map .mv
  | .pick c a b =>
    match opdA c, opdA a, opdA b with
    | some c, some a, some b => some (.pick c a b)
    | _, _, _ => none
  | .alloc t => (zeroC P t).map .alloc
  | .box t x =>
    match szOf P t, opdA x with
    | some n, some x => some (.box n x)
    | _, _ => none
  | .build t parts =>
    match zeroC P t, P.underlying t with
    | some z, some (.struct fields) =>
      if fields.toList.all (fun (f : Field) => (P.info? f.type).isSome) then
        (parts.toList.mapM (cPart P fields)).map (.build z)
      else none
    | some z, some (.array _ e) =>
      match szOf P e with
      | some n => (parts.toList.mapM (cPartA n)).map (.build z)
      | none => none
    | _, _ => none
  | .buildSlice t len parts =>
    match P.underlying t with
    | some (.slice e) =>
      match szOf P e, zeroC P e with
      | some k, some z =>
        if len * k ≤ 2 ^ 24 ∧ z.length = k ∧ 0 < k then
          (parts.toList.mapM cPartS).map (.bslice k len z)
        else none
      | _, _ => none
    | _ => none
  | .load t x =>
    match aggT P t, szOf P t, opdA x with
    | some ag, some n, some x => some (.load ag n x)
    | _, _, _ => none
  | .store t a v =>
    match szOf P t, opdA a, opdA v with
    | some n, some a, some v => some (.store n a v)
    | _, _, _ => none
  | .nilCheck x => (opdA x).map .nilck
  | .binOp op t x y _ =>
    match op with
    | .eql => cEq P false op t x y
    | .neq => cEq P true op t x y
    | _ => match opdA x, opdA y with
      | some a, some b => some (.bin op a b)
      | _, _ => none
  | .unOp op _ x => (opdA x).map (.un op)
  | .convert src dst x =>
    match P.underlying src, P.underlying dst, opdA x with
    | some (.int _), some (.int k), some x => some (.conv k x)
    | some .string, some .string, some x => some (.same x)
    | _, _, _ => none
  | .sliceToArrayPointer arr x =>
    match P.underlying arr, opdA x with
    | some (.array n e), some x => (szOf P e).map fun k => .arrp n k x
    | _, _ => none
  | .makeInterface t x =>
    match P.underlying t, opdA x with
    | some (.interface _), _ => none
    | some _, some x => some (.mkif t x)
    | _, _ => none
  | .makeFunc fn first captured =>
    match opdsA first, opdsA captured with
    | some a, some b => some (.mkfn fn a b)
    | _, _ => none
  | .makeMap _ none => some .mkmap
  | .makeSlice t l c =>
    match P.underlying t with
    | some (.slice e) =>
      match P.info? e, zeroC P e, opdA l, opdA c with
      | some i, some z, some l, some c => if z.length = i.size then some (.mkslice i.size i.bytes z l c) else none
      | _, _, _, _ => none
    | _ => none
  | .slice t x lo hi mx =>
    match P.underlying t, opdA x, optA lo, optA hi, optA mx with
    | some .string, some x, some lo, some hi, some none => some (.slstr x lo hi)
    | some (.slice e), some x, some lo, some hi, some mx =>
      if mx.isSome && hi.isNone then none else (szOf P e).map fun k => .slice k x lo hi mx
    | some (.array n e), some x, some lo, some hi, some none => (szOf P e).map fun k => .slarr n k x lo hi
    | _, _, _, _, _ => none
  | .fieldAddr t x f =>
    match P.underlying t, opdA x with
    | some (.struct fields), some x =>
      match fields[f]? with
      | some fd => match szOf P fd.type with
        | some n => if n = 0 then none else some (.faddr fd.offset x)
        | none => none
      | none => none
    | _, _ => none
  | .field t x f =>
    match P.underlying t, opdA x with
    | some (.struct fields), some x =>
      match fields[f]? with
      | some fd => match szOf P fd.type, aggT P fd.type with
        | some n, some ag => if n = 0 then none else some (.field fd.offset n ag x)
        | _, _ => none
      | none => none
    | _, _ => none
  | .indexAddr t x i =>
    match P.underlying t, opdA x, opdA i with
    | some (.slice e), some x, some i => (szOf P e).map fun k => .iaddr k x i
    | some (.array n e), some x, some i => (szOf P e).map fun k => .iaddrA n k x i
    | _, _, _ => none
  | .index t x i =>
    match P.underlying t, opdA x, opdA i with
    | some (.array n e), some x, some i =>
      match szOf P e, aggT P e with
      | some k, some ag => if k = 0 then none else some (.idxA n k ag x i)
      | _, _ => none
    | some .string, some x, some i => some (.idxS x i)
    | _, _, _ => none
  | .lookup t m i ok =>
    match P.underlying t, opdA m, opdA i with
    | some (.map kt e), some m, some i =>
      match shapeOf P 20 kt, zeroV P e with
      | some sh, some z => some (.lookup sh z ok m i)
      | _, _ => none
    | _, _, _ => none
  | .mapUpdate t m k v | .insert t m k v =>
    match P.underlying t, opdA m, opdA k, opdA v with
    | some (.map kt _), some m, some k, some v => (shapeOf P 20 kt).map fun sh => .mapup sh m k v
    | _, _, _, _ => none
  | .extract t i => (opdA t).map fun x => .extr x i
  | .call c =>
    match opdsA c.args, c.callee with
    | some args, .builtin b => cBuiltin P b c.argTypes args
    | some args, .value (.func f) => some (.call true f args)
    | some args, .value x => (opdA x).map fun x => .callv true x args
    | _, _ => none
  | _ => none

/-! ### The lemmas on reading operands -/
theorem scal_rel {F : Frz} {L : Lay} {v : Value} {a : AVal} (h : scal v = some a) : VRel F L a v := by
  unfold scal at h
  split at h <;> first
    | (obtain rfl := Option.some.inj h; constructor; done)
    | simp at h

theorem scal_one {v : Value} {a : AVal} (h : scal v = some a) : a.one = true := by
  unfold scal at h
  split at h <;> first
    | (obtain rfl := Option.some.inj h; rfl)
    | simp at h

theorem scals_rel {F : Frz} {L : Lay} {cs : List Value} {as : List AVal} (h : cs.mapM scal = some as) : CellsRel F L as cs := by
  obtain ⟨h1, _⟩ := mapM_some _ h
  refine ⟨h1.symm, fun i c hi => ?_⟩
  obtain ⟨v, hv, hs⟩ := mapM_back _ h hi
  simp only [List.getD_eq_getElem?_getD, hv, Option.getD_some]
  exact scal_rel hs

theorem scals_one {cs : List Value} {as : List AVal} (h : cs.mapM scal = some as) : ∀ c ∈ as, c.one = true := by
  intro c hc
  obtain ⟨i, hi⟩ := List.getElem?_of_mem hc
  obtain ⟨v, hv, hs⟩ := mapM_back _ h hi
  exact scal_one hs

theorem valA_rel {F : Frz} {L : Lay} {v : Value} {a : AVal} (h : valA v = some a) : VRel F L a v := by
  unfold valA at h
  split at h
  · rename_i cs
    simp only [Option.map_eq_some_iff] at h
    obtain ⟨as, h1, rfl⟩ := h
    obtain ⟨h2, h3⟩ := scals_rel (F := F) (L := L) h1
    exact .agg (by simpa using h2) fun i c hi => by have := h3 i c hi; simpa [Array.getD_eq_getD_getElem?, List.getD_eq_getElem?_getD] using this
  · exact scal_rel h

/-- what the operands read -/
def Reads (F : Frz) (L : Lay) (e : Env) (ρ : Operand → Value) (x : Operand) : Prop := ∀ y, opdA x = some y → VRel F L (ev e y) (ρ x)

def EnvRel (F : Frz) (L : Lay) (e : Env) (tmps : Array Value) : Prop := e.length = tmps.size ∧ ∀ (t : Nat) (v : AVal), e[t]? = some v → VRel F L v (tmps.getD t undef)

theorem EnvRel.reads {F : Frz} {L : Lay} {e : Env} {a : Act} (h : EnvRel F L e a.tmps) (x : Operand) : Reads F L e a.eval x := by
  intro y hy
  cases x with
  | tmp t =>
    simp only [opdA] at hy
    obtain rfl := Option.some.inj hy
    show VRel F L (e.getD t .und) (a.tmps.getD t undef)
    cases he : e[t]? with
    | none => simp only [List.getD_eq_getElem?_getD, he, Option.getD_none]; exact .und
    | some v => simp only [List.getD_eq_getElem?_getD, he, Option.getD_some]; exact h.2 t v he
  | const v =>
    simp only [opdA, Option.map_eq_some_iff] at hy
    obtain ⟨a', h1, rfl⟩ := hy
    exact valA_rel h1
  | global g => simp [opdA] at hy
  | func f =>
    simp only [opdA] at hy
    obtain rfl := Option.some.inj hy
    exact .clo rfl rfl (fun i c hi => by simp at hi) (fun i c hi => by simp at hi)

theorem EnvRel.put {F : Frz} {L : Lay} {e : Env} {a : Act} (h : EnvRel F L e a.tmps) {dst : Option Tmp} {v : AVal} {cv : Value} (hv : VRel F L v cv) :
    EnvRel F L (Abs.put e dst v) (a.put dst cv).tmps := by
  cases dst with
  | none => exact h
  | some d =>
    refine ⟨by simp [Abs.put, Act.put, h.1], fun t u hu => ?_⟩
    simp only [Abs.put, Act.put] at hu ⊢
    rw [List.getElem?_set] at hu
    by_cases hd : d = t
    · subst hd
      simp at hu
      obtain ⟨hlt, rfl⟩ := hu
      have hlt' : d < a.tmps.size := by rw [← h.1]; exact hlt
      simpa [Array.getD_eq_getD_getElem?, Array.getElem?_setIfInBounds, hlt'] using hv
    · rw [if_neg hd] at hu
      have := h.2 t u hu
      simpa [Array.getD_eq_getD_getElem?, Array.getElem?_setIfInBounds, hd] using this

theorem EnvRel.mono {F F' : Frz} {L L' : Lay} {e : Env} {tmps : Array Value} (h : EnvRel F L e tmps) (hF : F.Le F') (hE : Evo L L') : EnvRel F' L' e tmps :=
  ⟨h.1, fun t v hv => (h.2 t v hv).mono hF hE⟩

end Go.Abs
