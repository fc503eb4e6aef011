/- An abstract machine for the model's Code: values as trees, a small store, one text order. -/
import GoSem.Core.Code
import GoSem.Op.String
import Derived.Attr
set_option linter.all false
namespace Go.Abs
open Go

inductive AVal where
  | und
  | bool (b : Bool)
  | int (k : IntKind) (n : Int)
  | str (s : ByteArray)
  | nils
  | emp
  | list (k : Nat) (xs : List AVal)
  | ref (o gen off len k : Nat)
  | nilp
  | fptr (cs : List AVal)
  | ptr (o gen off : Nat)
  | nilm
  | fmap (ks vs : List AVal)
  | map (o : Nat)
  | nilf
  | clo (f : Fn) (first captured : List AVal)
  | nili
  | iface (t : TypeId) (v : AVal)
  | agg (cs : List AVal)
  | tup (vs : List AVal)
  deriving Inhabited

def AVal.cells : AVal → List AVal
  | .agg cs => cs
  | v => [v]

/-- the value of one cell -/
def AVal.one : AVal → Bool
  | .und | .agg _ | .tup _ => false
  | _ => true

/-- what has a known number of cells: n -/
def AVal.fits (n : Nat) : AVal → Bool
  | .und | .tup _ => false
  | .agg cs => cs.length == n && cs.all AVal.one
  | _ => n == 1

mutual
/-- every live object that is named fulfils p -/
def AVal.names (p : Nat → Bool) : AVal → Bool
  | .ref o .. | .ptr o .. | .map o => p o
  | .clo _ a b => AVal.namesL p a && AVal.namesL p b
  | .iface _ v => v.names p
  | .agg cs => AVal.namesL p cs
  | .tup vs => AVal.namesL p vs
  | _ => true
def AVal.namesL (p : Nat → Bool) : List AVal → Bool
  | [] => true
  | v :: vs => v.names p && AVal.namesL p vs
end
/-- no live object is named -/
abbrev AVal.pure (v : AVal) : Bool := v.names fun _ => false
abbrev AVal.pures (vs : List AVal) : Bool := AVal.namesL (fun _ => false) vs
/-- every object that is named has a number below l -/
abbrev AVal.under (l : Nat) (v : AVal) : Bool := v.names fun o => decide (o < l)
abbrev AVal.unders (l : Nat) (vs : List AVal) : Bool := AVal.namesL (fun o => decide (o < l)) vs

mutual
/-- nothing in memory is named at all -/
def AVal.flat : AVal → Bool
  | .ref .. | .ptr .. | .map _ | .list .. | .fptr _ | .fmap .. | .emp => false
  | .clo _ a b => AVal.flats a && AVal.flats b
  | .iface _ v => v.flat
  | .agg cs => AVal.flats cs
  | .tup vs => AVal.flats vs
  | _ => true
def AVal.flats : List AVal → Bool
  | [] => true
  | v :: vs => v.flat && AVal.flats vs
end

def AVal.isUnd : AVal → Bool
  | .und => true
  | _ => false

inductive AObj where
  | cells (nl : Bool) (cs : List AVal)
  | map (ks vs : List AVal)
  | dead
  deriving Inhabited

abbrev Env := List AVal
abbrev Sto := List AObj

/-- every object that is named in an object has a number below l -/
def AObj.under (l : Nat) : AObj → Bool
  | .cells _ cs => AVal.unders l cs
  | .map ks vs => AVal.unders l ks && AVal.unders l vs
  | .dead => true

/-! ### Operations -/
inductive Opd where
  | tmp (t : Nat)
  | cst (v : AVal)
  deriving Inhabited

def ev (e : Env) : Opd → AVal
  | .tmp t => e.getD t .und
  | .cst v => v

/-- The shape of a type whose values can be compared by their cells. -/
inductive Shape where
  | bool | int (k : IntKind) | str
  | row (parts : List (Nat × Nat × Bool × Shape))   -- each part: offset, size, is it an aggregate
  deriving Inhabited

inductive LenK where
  | str | sl | mp
  deriving Inhabited

inductive NilK where
  | sl | mp | fn | pt
  deriving DecidableEq, Inhabited

inductive AOp where
  | mv (x : Opd)
  | pick (c a b : Opd)
  | alloc (zero : List AVal)
  | box (n : Nat) (x : Opd)
  | build (zero : List AVal) (parts : List (Nat × Nat × Opd))
  | bslice (k len : Nat) (zero : List AVal) (parts : List (Nat × Opd))
  | load (agg : Bool) (n : Nat) (x : Opd)
  | store (n : Nat) (a v : Opd)
  | nilck (x : Opd)
  | bin (op : BinOp) (x y : Opd)
  | eqs (neg : Bool) (sh : Shape) (x y : Opd)
  | eqnil (neg : Bool) (kd : NilK) (x : Opd)
  | un (op : UnOp) (x : Opd)
  | conv (k : IntKind) (x : Opd)
  | same (x : Opd)
  | mkif (t : TypeId) (x : Opd)
  | mkfn (f : Fn) (first captured : List Opd)
  | mkmap
  | mkslice (k bytes : Nat) (zero : List AVal) (l c : Opd)
  | slice (k : Nat) (x : Opd) (lo hi mx : Option Opd)
  | slstr (x : Opd) (lo hi : Option Opd)
  | slarr (n k : Nat) (x : Opd) (lo hi : Option Opd)
  | faddr (off : Nat) (x : Opd)
  | field (off size : Nat) (agg : Bool) (x : Opd)
  | iaddr (k : Nat) (x i : Opd)
  | iaddrA (n k : Nat) (x i : Opd)
  | idxA (n k : Nat) (agg : Bool) (x i : Opd)
  | idxS (x i : Opd)
  | lookup (sh : Shape) (zero : AVal) (ok : Bool) (m i : Opd)
  | mapup (sh : Shape) (m k v : Opd)
  | extr (x : Opd) (i : Nat)
  | len (kd : LenK) (x : Opd)
  | cap (x : Opd)
  | append (k bytes : Nat) (s x : Opd)
  | appendz (k bytes : Nat) (zero : List AVal) (s x : Opd)
  | copy (k : Nat) (d s : Opd)
  | clear (zero : List AVal) (x : Opd)
  | delete (sh : Shape) (m k : Opd)
  | minmax (isMax : Bool) (xs : List Opd)
  | arrp (n k : Nat) (x : Opd)
  | call (isPure : Bool) (f : FuncId) (args : List Opd)
  | callv (isPure : Bool) (x : Opd) (args : List Opd)
  | unsup
  deriving Inhabited

structure AOper where
  dst : Option Nat
  op : AOp
  guard : Option (Option Nat × Bool)   -- the place of the guard's value
  after : List Nat
  reads : List Nat
  deriving Inhabited

inductive Ghost where
  | kill (ts : List Nat)
  | freeze (t : Nat)
  | nilref (t k : Nat)
  | dfreeze (t : Nat)   -- freezes t with all that it names
  | inner (t : Nat)   -- freezes all that t's object names
  deriving Inhabited

inductive GOp where
  | op (o : AOper)
  | gh (g : Ghost)
  deriving Inhabited

def GOp.oper? : GOp → Option AOper
  | .op o => some o
  | .gh _ => none

inductive ACode where
  | skip
  | region (draw : Bool) (ops : List AOper)
  | regionG (xs : List GOp)
  | seq (a b : ACode)
  | cond (c : Opd) (thn els : ACode)
  | block (id : Nat) (body : ACode)
  | loop (body : ACode)
  | exit (id : Nat)
  | ret
  | trunc (body : ACode)
  | scope (body : ACode)
  | ghost (g : Ghost)
  deriving Inhabited

def put (e : Env) : Option Nat → AVal → Env
  | some d, v => e.set d v
  | none, _ => e

/-! ### What values do -/
def binInt (op : BinOp) (k : IntKind) (a b : Int) : Option AVal :=
  match op with
  | .add => some (.int k (k.wrap (a + b)))
  | .sub => some (.int k (k.wrap (a - b)))
  | .mul => some (.int k (k.wrap (a * b)))
  | .quo => if b = 0 then none else some (.int k (k.wrap (a.tdiv b)))
  | .rem => if b = 0 then none else some (.int k (a.tmod b))
  | .and => some (.int k (k.wrap (BitVec.ofInt k.bits a &&& BitVec.ofInt k.bits b).toNat))
  | .or => some (.int k (k.wrap (BitVec.ofInt k.bits a ||| BitVec.ofInt k.bits b).toNat))
  | .xor => some (.int k (k.wrap (BitVec.ofInt k.bits a ^^^ BitVec.ofInt k.bits b).toNat))
  | .andNot => some (.int k (k.wrap (BitVec.ofInt k.bits a &&& ~~~BitVec.ofInt k.bits b).toNat))
  | .eql => some (.bool (a == b))
  | .neq => some (.bool (a != b))
  | .lss => some (.bool (a < b))
  | .leq => some (.bool (a ≤ b))
  | .gtr => some (.bool (a > b))
  | .geq => some (.bool (a ≥ b))
  | _ => none

def binStr (op : BinOp) (x y : ByteArray) : Option AVal :=
  match op with
  | .add => if ((x.size + y.size : Nat) : Int) ≤ IntKind.i64.max then some (.str (x ++ y)) else none
  | .eql => some (.bool (x.toList == y.toList))
  | .neq => some (.bool !(x.toList == y.toList))
  | .lss => some (.bool (Op.bytesLess x.toList y.toList))
  | .leq => some (.bool (Op.bytesLess x.toList y.toList || x.toList == y.toList))
  | .gtr => some (.bool !(Op.bytesLess x.toList y.toList || x.toList == y.toList))
  | .geq => some (.bool !(Op.bytesLess x.toList y.toList))
  | _ => none

def binA (op : BinOp) (x y : AVal) : Option AVal :=
  match x, y with
  | .int k a, .int yk b =>
    match op with
    | .shl => if b < 0 then none else some (.int k (k.wrap (a * 2 ^ (min b.toNat k.bits))))
    | .shr => if b < 0 then none else some (.int k (a.fdiv (2 ^ (min b.toNat k.bits))))
    | _ => if k = yk then binInt op k a b else none
  | .str a, .str b => binStr op a b
  | _, _ => none

def unA (op : UnOp) (x : AVal) : Option AVal :=
  match op, x with
  | .neg, .int k n => some (.int k (k.wrap (0 - n)))
  | .xor, .int k n => some (.int k (k.wrap (BitVec.ofInt k.bits (if k.signed then -1 else k.max) ^^^ BitVec.ofInt k.bits n).toNat))
  | .not, .bool b => some (.bool !b)
  | _, _ => none

mutual
/-- 'x == y' at a shape -/
def eqA : Shape → AVal → AVal → Option Bool
  | .bool, .bool a, .bool b => some (a == b)
  | .int _, .int k a, .int k' b => if k = k' then some (a == b) else none
  | .str, .str a, .str b => some (a == b)
  | .row ps, .agg xs, .agg ys => eqParts ps xs ys
  | _, _, _ => none
def eqParts : List (Nat × Nat × Bool × Shape) → List AVal → List AVal → Option Bool
  | [], _, _ => some true
  | (off, n, agg, sh) :: ps, xs, ys =>
    match (if agg then some (AVal.agg ((xs.drop off).take n)) else xs[off]?), (if agg then some (AVal.agg ((ys.drop off).take n)) else ys[off]?) with
    | some x, some y =>
      match eqA sh x y with
      | some true => eqParts ps xs ys
      | r => r
    | _, _ => none
end

/-- two keys of the same bits -/
def sameS : AVal → AVal → Bool
  | .bool a, .bool b => a == b
  | .int j a, .int k b => j == k && a == b
  | .str a, .str b => a == b
  | _, _ => false
def sameL : List AVal → List AVal → Bool
  | [], [] => true
  | x :: xs, y :: ys => sameS x y && sameL xs ys
  | _, _ => false
def sameA : AVal → AVal → Bool
  | .agg xs, .agg ys => sameL xs ys
  | x, y => sameS x y

/-- the place of a key -/
def findA (sh : Shape) (k : AVal) : List AVal → Nat → Option (Option Nat)
  | [], _ => some none
  | x :: ks, i =>
    match eqA sh k x with
    | some true => some (some i)
    | some false => findA sh k ks (i + 1)
    | none => none

def loadA (agg : Bool) (n : Nat) (cs : List AVal) : Option AVal :=
  if agg then (if n ≤ cs.length then some (.agg (cs.take n)) else none) else cs.head?

def overwrite (cs : List AVal) (off : Nat) (new : List AVal) : List AVal :=
  cs.take off ++ new ++ cs.drop (off + new.length)

def fillA (cells : List AVal) : List (Nat × Nat × AVal) → Option (List AVal)
  | [] => some cells
  | (off, size, v) :: rest => if v.fits size && decide (off + size ≤ cells.length) then fillA (overwrite cells off v.cells) rest else none

def chunk (k : Nat) : Nat → List AVal → List AVal
  | 0, _ => []
  | n + 1, cs => (if k = 1 then cs.headD .und else .agg (cs.take k)) :: chunk k n (cs.drop k)

/-- the cells of a slice's elements -/
def rowOf (σ : Sto) : AVal → Option (Nat × List AVal)
  | .nils | .emp => some (0, [])
  | .list _ xs => some (xs.length, xs.flatMap AVal.cells)
  | .ref o gen off len k =>
    match σ[o]? with
    | some (.cells _ cs) => if cs.length = gen then some (len, (cs.drop off).take (len * k)) else none
    | _ => none
  | _ => none

def natOf : AVal → Option Nat
  | .int _ n => if 0 ≤ n then some n.toNat else none
  | _ => none

def bound (e : Env) (x : Option Opd) (d : Nat) : Option Nat :=
  match x with
  | some o => natOf (ev e o)
  | none => some d

/-- levels: what is stored into an object below a level names none at or above it -/
def lvOk (lv : List Nat) (o : Nat) (vs : List AVal) : Bool :=
  lv.all fun l => decide (l ≤ o) || AVal.unders l vs

def maxBytes : Nat := 140737488355328

def stepOp (lv : List Nat) (op : AOp) (e : Env) (σ : Sto) : Option (AVal × Sto) :=
  match op with
  | .mv x => some (ev e x, σ)
  | .pick c a b =>
    match ev e c with
    | .bool t => some (if t then ev e a else ev e b, σ)
    | _ => none
  | .alloc zero => some (.ptr σ.length zero.length 0, σ ++ [.cells false zero])
  | .box n x => if (ev e x).fits n then some (.ptr σ.length n 0, σ ++ [.cells false (ev e x).cells]) else none
  | .build zero parts => (fillA zero (parts.map fun (o, s, x) => (o, s, ev e x))).map fun cs => (.agg cs, σ)
  | .bslice k len zero parts =>
    (fillA (List.replicate len zero).flatten (parts.map fun (i, x) => (i * k, k, ev e x))).map fun cs => (.ref σ.length cs.length 0 len k, σ ++ [.cells false cs])
  | .load agg n x =>
    match ev e x with
    | .fptr cs => (loadA agg n cs).map (·, σ)
    | .ptr o gen off =>
      match σ[o]? with
      | some (.cells _ cs) => if cs.length = gen then (loadA agg n (cs.drop off)).map (·, σ) else none
      | _ => none
    | _ => none
  | .store n a v =>
    match ev e a with
    | .ptr o gen off =>
      match σ[o]? with
      | some (.cells nl cs) =>
        if cs.length = gen ∧ off + n ≤ gen ∧ (ev e v).fits n ∧ lvOk lv o (ev e v).cells then
          some (.und, σ.set o (.cells nl (overwrite cs off (ev e v).cells))) else none
      | _ => none
    | _ => none
  | .nilck x =>
    match ev e x with
    | .ptr .. | .fptr _ | .clo (.func _) _ _ => some (ev e x, σ)
    | _ => none
  | .bin op x y => (binA op (ev e x) (ev e y)).map (·, σ)
  | .eqs neg sh x y => (eqA sh (ev e x) (ev e y)).map fun b => (.bool (if neg then !b else b), σ)
  | .eqnil neg kd x =>
    match kd, ev e x with
    | .sl, .nils | .pt, .nilp | .mp, .nilm | .fn, .nilf => some (.bool !neg, σ)
    | .sl, .emp | .sl, .list .. | .fn, .clo .. | .pt, .fptr _ | .mp, .fmap .. | .pt, .ptr .. | .mp, .map _ => some (.bool neg, σ)
    | .sl, .ref o gen _ _ _ =>
      match σ[o]? with
      | some (.cells nl cs) => if cs.length = gen then some (.bool (if nl && cs.isEmpty then !neg else neg), σ) else none
      | _ => none
    | _, _ => none
  | .un op x => (unA op (ev e x)).map (·, σ)
  | .conv k x =>
    match ev e x with
    | .int _ n => some (.int k (k.wrap n), σ)
    | _ => none
  | .same x =>
    match ev e x with
    | .str s => some (.str s, σ)
    | _ => none
  | .mkif t x => if (ev e x).isUnd then none else some (.iface t (ev e x), σ)
  | .mkfn f first captured => some (.clo f (first.map (ev e)) (captured.map (ev e)), σ)
  | .mkmap => some (.map σ.length, σ ++ [.map [] []])
  | .mkslice k bytes zero l c =>
    match ev e l, ev e c with
    | .int .i64 l, .int .i64 c =>
      if 0 ≤ l ∧ l ≤ c ∧ bytes * c.toNat ≤ 2 * maxBytes ∧ c ≤ IntKind.i64.max then
        some (.ref σ.length (c.toNat * k) 0 l.toNat k, σ ++ [.cells false (List.replicate c.toNat zero).flatten]) else none
    | _, _ => none
  | .slice k x lo hi mx =>
    match ev e x with
    | .nils => if bound e lo 0 = some 0 ∧ bound e hi 0 = some 0 ∧ bound e mx 0 = some 0 then some (.nils, σ) else none
    | .list k' xs =>
      match bound e lo 0, bound e hi xs.length, bound e mx xs.length with
      | some l, some h, some m =>
        if l ≤ h ∧ h ≤ m ∧ m ≤ xs.length ∧ k = k' then (if m = 0 ∧ mx.isSome then some (.emp, σ) else some (.list k ((xs.take h).drop l), σ)) else none
      | _, _, _ => none
    | .ref o gen off len k' =>
      match σ[o]? with
      | some (.cells nl cs) =>
        if cs.length = gen ∧ k = k' ∧ 0 < k then
          if nl && cs.isEmpty then
            (if bound e lo 0 = some 0 ∧ bound e hi 0 = some 0 ∧ bound e mx 0 = some 0 then some (.nils, σ) else none)
          else
          match mx with
          | none =>
            match bound e lo 0, bound e hi len with
            | some l, some h => if l ≤ h ∧ off + h * k ≤ gen then (if off + l * k = gen then some (.list k [], σ) else some (.ref o gen (off + l * k) (h - l) k, σ)) else none
            | _, _ => none
          | some _ =>
            match bound e lo 0, bound e hi len, bound e mx 0 with
            | some l, some h, some m => if l ≤ h ∧ h ≤ m ∧ off + m * k ≤ gen then some (if m = 0 then .emp else .und, σ) else none
            | _, _, _ => none
        else none
      | _ => none
    | _ => none
  | .slstr x lo hi =>
    match ev e x with
    | .str s =>
      match bound e lo 0, bound e hi s.size with
      | some l, some h => if l ≤ h ∧ h ≤ s.size then some (.str (s.extract l h), σ) else none
      | _, _ => none
    | _ => none
  | .slarr n k x lo hi =>
    match ev e x, bound e lo 0, bound e hi n with
    | .ptr o gen off, some l, some h =>
      match σ[o]? with
      | some (.cells false cs) =>
        if cs.length = gen ∧ l ≤ h ∧ h ≤ n ∧ off + n * k = gen ∧ 0 < k then (if l = n then some (.list k [], σ) else some (.ref o gen (off + l * k) (h - l) k, σ)) else none
      | _ => none
    | .fptr cs, some l, some h => if l ≤ h ∧ h ≤ n ∧ n * k ≤ cs.length ∧ 0 < k then some (.list k (chunk k (h - l) (cs.drop (l * k))), σ) else none
    | _, _, _ => none
  | .faddr off x =>
    match ev e x with
    | .ptr o gen a => some (.ptr o gen (a + off), σ)
    | .fptr cs => some (.fptr (cs.drop off), σ)
    | _ => none
  | .field off size agg x =>
    match ev e x with
    | .agg cs => if off + size ≤ cs.length then (loadA agg size (cs.drop off)).map (·, σ) else none
    | _ => none
  | .iaddr k x i =>
    match ev e x, natOf (ev e i) with
    | .list k' xs, some i => if k = k' then (xs[i]?).map fun v => (.fptr v.cells, σ) else none
    | .ref o gen off len k', some i =>
      match σ[o]? with
      | some (.cells _ cs) => if i < len ∧ k = k' ∧ cs.length = gen then some (.ptr o gen (off + i * k), σ) else none
      | _ => none
    | _, _ => none
  | .iaddrA n k x i =>
    match ev e x, natOf (ev e i) with
    | .ptr o gen off, some i => if i < n then some (.ptr o gen (off + i * k), σ) else none
    | .fptr cs, some i => if i < n then some (.fptr (cs.drop (i * k)), σ) else none
    | _, _ => none
  | .idxA n k agg x i =>
    match ev e x, natOf (ev e i) with
    | .agg cs, some i => if i < n ∧ i * k + k ≤ cs.length then (loadA agg k (cs.drop (i * k))).map (·, σ) else none
    | _, _ => none
  | .idxS x i =>
    match ev e x, natOf (ev e i) with
    | .str s, some i => (s[i]?).map fun b => (.int .u8 b.toNat, σ)
    | _, _ => none
  | .lookup sh zero ok m i =>
    let res (v : AVal) (b : Bool) : AVal := if ok then .tup [v, .bool b] else v
    let look (ks vs : List AVal) : Option (AVal × Sto) :=
      if eqA sh (ev e i) (ev e i) = some true then
        match findA sh (ev e i) ks 0 with
        | some (some j) => (vs[j]?).map fun v => (res v true, σ)
        | some none => some (res zero false, σ)
        | none => none
      else none
    match ev e m with
    | .nilm => look [] []
    | .fmap ks vs => look ks vs
    | .map o =>
      match σ[o]? with
      | some (.map ks vs) => look ks vs
      | _ => none
    | _ => none
  | .mapup sh m k v =>
    match ev e m with
    | .map o =>
      match σ[o]? with
      | some (.map ks vs) =>
        if lvOk lv o [ev e k, ev e v] ∧ eqA sh (ev e k) (ev e k) = some true then
          match findA sh (ev e k) ks 0 with
          | some (some j) => if sameA (ev e k) (ks.getD j .und) then some (.und, σ.set o (.map ks (vs.set j (ev e v)))) else none
          | some none => some (.und, σ.set o (.map (ks ++ [ev e k]) (vs ++ [ev e v])))
          | none => none
        else none
      | _ => none
    | _ => none
  | .extr x i =>
    match ev e x with
    | .tup vs => (vs[i]?).map (·, σ)
    | _ => none
  | .len kd x =>
    match kd, ev e x with
    | .sl, .nils | .sl, .emp | .mp, .nilm => some (.int .i64 0, σ)
    | .sl, .list _ xs => some (.int .i64 xs.length, σ)
    | .str, .str s => some (.int .i64 s.size, σ)
    | .mp, .fmap ks _ => some (.int .i64 ks.length, σ)
    | .sl, .ref o gen _ len _ =>
      match σ[o]? with
      | some (.cells _ cs) => if cs.length = gen then some (.int .i64 len, σ) else none
      | _ => none
    | .mp, .map o =>
      match σ[o]? with
      | some (.map ks _) => some (.int .i64 ks.length, σ)
      | _ => none
    | _, _ => none
  | .cap x =>
    match ev e x with
    | .nils | .emp => some (.int .i64 0, σ)
    | _ => none
  | .unsup => none
  | .append k bytes s x =>
    match rowOf σ (ev e x) with
    | none => none
    | some (m, new) =>
      if new.length = m * k ∧ 0 < k ∧ new.all AVal.one then
        match ev e s with
        | .nils | .emp => if m = 0 then some (ev e s, σ) else if m * bytes ≤ maxBytes then some (.ref σ.length (m * k) 0 m k, σ ++ [.cells false new]) else none
        | .ref o gen off len k' =>
          match σ[o]? with
          | some (.cells nl cs) =>
            if cs.length = gen ∧ k = k' ∧ lvOk lv o new then
              if m = 0 then some (ev e s, σ)
              else if off + (len + m) * k ≤ gen then some (.ref o gen off (len + m) k, σ.set o (.cells nl (overwrite cs (off + len * k) new)))
              else if off = 0 ∧ (len + m) * bytes ≤ maxBytes then some (.ref o ((len + m) * k) 0 (len + m) k, σ.set o (.cells nl (cs.take (len * k) ++ new)))
              else none
            else none
          | _ => none
        | _ => none
      else none
  | .appendz k bytes zero s x =>
    match ev e s, ev e x with
    | .nils, .int .i64 n =>
      if 0 ≤ n ∧ n.toNat * bytes ≤ maxBytes ∧ 0 < k then
        (if n = 0 then some (.nils, σ) else some (.ref σ.length (n.toNat * k) 0 n.toNat k, σ ++ [.cells false (List.replicate n.toNat zero).flatten])) else none
    | _, _ => none
  | .copy k d s =>
    match ev e d, rowOf σ (ev e s) with
    | .nils, some _ => some (.int .i64 0, σ)
    | .ref o gen off len k', some (m, src) =>
      match σ[o]? with
      | some (.cells nl cs) =>
        if cs.length = gen ∧ k = k' ∧ src.length = m * k ∧ off + len * k ≤ gen ∧ lvOk lv o src ∧ src.all AVal.one then
          some (.int .i64 (min m len : Nat), σ.set o (.cells nl (overwrite cs off (src.take (min m len * k))))) else none
      | _ => none
    | _, _ => none
  | .clear zero x =>
    match ev e x with
    | .nils | .nilm | .emp => some (.tup [], σ)
    | .list _ [] => some (.tup [], σ)
    | .ref o gen off len k =>
      match σ[o]? with
      | some (.cells nl cs) =>
        if cs.length = gen ∧ k = zero.length ∧ off + len * k ≤ gen ∧ lvOk lv o zero then
          some (.tup [], σ.set o (.cells nl (overwrite cs off (List.replicate len zero).flatten))) else none
      | _ => none
    | _ => none
  | .delete sh m k =>
    match ev e m with
    | .map o =>
      match σ[o]? with
      | some (.map ks vs) =>
        if eqA sh (ev e k) (ev e k) = some true then
          match findA sh (ev e k) ks 0 with
          | some (some j) => some (.tup [], σ.set o (.map (ks.eraseIdx j) (vs.eraseIdx j)))
          | some none => some (.tup [], σ)
          | none => none
        else none
      | _ => none
    | _ => none
  | .minmax isMax xs =>
    match xs.map (ev e) with
    | .int k a :: rest =>
      (rest.foldlM (fun (m : Int) (v : AVal) => match v with
        | .int _ y => some (if isMax then (if m < y then y else m) else (if y < m then y else m))
        | _ => none) a).map fun m => (.int k m, σ)
    | _ => none
  | .arrp n k x =>
    match ev e x with
    | .ref o gen off len k' =>
      match σ[o]? with
      | some (.cells false cs) => if cs.length = gen ∧ k = k' ∧ n ≤ len then some (.ptr o gen off, σ) else none
      | _ => none
    | .list k' xs => if n ≤ xs.length ∧ 0 < n ∧ k = k' then some (.fptr ((xs.take n).flatMap AVal.cells), σ) else none
    | _ => none
  | .call .. | .callv .. => none


/-! ### Reading memory off as a tree -/
def snapA (σ : Sto) : Nat → AVal → Option AVal
  | 0, _ => none
  | n + 1, v =>
    if v.pure then some v else
    match v with
    | .ref o gen off len k =>
      match σ[o]? with
      | some (.cells nl cs) =>
        if cs.length = gen ∧ off + len * k ≤ gen ∧ 0 < k then
          (if nl && cs.isEmpty then some .nils else (((cs.drop off).take (len * k)).mapM (snapA σ n)).map fun cs' => .list k (chunk k len cs'))
        else none
      | _ => none
    | .ptr o gen off =>
      match σ[o]? with
      | some (.cells _ cs) => if cs.length = gen then ((cs.drop off).mapM (snapA σ n)).map .fptr else none
      | _ => none
    | .map o =>
      match σ[o]? with
      | some (.map ks vs) =>
        match ks.mapM (snapA σ n), vs.mapM (snapA σ n) with
        | some ks', some vs' => some (.fmap ks' vs')
        | _, _ => none
      | _ => none
    | .clo f a b =>
      match a.mapM (snapA σ n), b.mapM (snapA σ n) with
      | some a', some b' => some (.clo f a' b')
      | _, _ => none
    | .iface t v => (snapA σ n v).map (.iface t)
    | .agg cs => (cs.mapM (snapA σ n)).map .agg
    | .tup vs => (vs.mapM (snapA σ n)).map .tup
    | _ => none

/-! ### Running -/
inductive AExit where
  | normal
  | exit (id : Nat)
  | ret
  deriving DecidableEq, Inhabited

inductive ARes where
  | tmp (t : Nat)
  | cell (t : Nat) (agg : Bool) (n : Nat)
  deriving Inhabited

structure AFunc where
  ntmps : Nat
  results : List ARes
  code : ACode
  deriving Inhabited

abbrev Post := AVal → Sto → Prop
abbrev CallW := Bool → FuncId → List AVal → List Nat → Sto → Post → Prop

def wpOper (cw : CallW) (lv : List Nat) (o : AOper) (e : Env) (σ : Sto) (K : Env → Sto → Prop) : Prop :=
  match o.op with
  | .call p f args => cw p f (args.map (ev e)) lv σ fun v σ' => K (put e o.dst v) σ'
  | .callv p x args =>
    match ev e x with
    | .clo (.func f) first captured => cw p f (first ++ args.map (ev e) ++ captured) lv σ fun v σ' => K (put e o.dst v) σ'
    | _ => False
  | op =>
    match stepOp lv op e σ with
    | some (v, σ') => K (put e o.dst v) σ'
    | none => False

def wantedA (o : AOper) (e : Env) : Option Bool :=
  match o.guard with
  | none => some true
  | some (t, want) =>
    match t.bind (e[·]?) with
    | some (.bool b) => some (b == want)
    | some (.tup _) => some false   -- the operation that it hangs on was passed over itself
    | _ => none

/-- what an operation that is passed over leaves -/
abbrev skipped : AVal := .tup []

def wpOpsA (cw : CallW) (lv : List Nat) : List AOper → Env → Sto → (Env → Sto → Prop) → Prop
  | [], e, σ, K => K e σ
  | o :: os, e, σ, K =>
    match wantedA o e with
    | some true => wpOper cw lv o e σ fun e' σ' => wpOpsA cw lv os e' σ' K
    | some false => wpOpsA cw lv os (put e o.dst skipped) σ K
    | none => False

abbrev Post3 := AExit → Env → Sto → Prop

def loopA (body : Env → Sto → Post3 → Prop) : Nat → Env → Sto → Post3 → Prop
  | 0, _, _, _ => False
  | n + 1, e, σ, Q => body e σ fun x e' σ' => match x with
    | .normal => loopA body n e' σ' Q
    | x => Q x e' σ'

def sanitize (n : Nat) (e : Env) : Env := e.map fun v => if v.under n then v else .und

def snapDepth : Nat := 64

def deepL (f : Sto → AVal → Option (AVal × Sto)) : Sto → List AVal → Option (List AVal × Sto)
  | σ, [] => some ([], σ)
  | σ, x :: xs =>
    match f σ x with
    | some (x', σ1) =>
      match deepL f σ1 xs with
      | some (xs', σ2) => some (x' :: xs', σ2)
      | none => none
    | none => none

/-- freezes a value with all that it names: the objects die -/
def deepA : Nat → Sto → AVal → Option (AVal × Sto)
  | 0, _, _ => none
  | n + 1, σ, v =>
    if v.pure then some (v, σ) else
    match v with
    | .ref o gen off len k =>
      match σ[o]? with
      | some (.cells nl cs) =>
        if cs.length = gen ∧ off + len * k ≤ gen ∧ 0 < k then
          match deepL (deepA n) σ cs with
          | some (cs', σ1) =>
            match σ1[o]? with
            | some (.cells _ _) => some (if nl && cs.isEmpty then .nils else .list k (chunk k len ((cs'.drop off).take (len * k))), σ1.set o .dead)
            | _ => none
          | none => none
        else none
      | _ => none
    | .ptr o gen off =>
      match σ[o]? with
      | some (.cells _ cs) =>
        if cs.length = gen then
          match deepL (deepA n) σ cs with
          | some (cs', σ1) =>
            match σ1[o]? with
            | some (.cells _ _) => some (.fptr (cs'.drop off), σ1.set o .dead)
            | _ => none
          | none => none
        else none
      | _ => none
    | .clo f a b =>
      match deepL (deepA n) σ a with
      | some (a', σ1) =>
        match deepL (deepA n) σ1 b with
        | some (b', σ2) => some (.clo f a' b', σ2)
        | none => none
      | none => none
    | .agg cs =>
      match deepL (deepA n) σ cs with
      | some (cs', σ1) => some (.agg cs', σ1)
      | none => none
    | .tup cs =>
      match deepL (deepA n) σ cs with
      | some (cs', σ1) => some (.tup cs', σ1)
      | none => none
    | .map o =>
      match σ[o]? with
      | some (.map ks vs) =>
        if AVal.pures ks then
          match deepL (deepA n) σ vs with
          | some (vs', σ1) =>
            match σ1[o]? with
            | some (.map _ _) => some (.fmap ks vs', σ1.set o .dead)
            | _ => none
          | none => none
        else none
      | _ => none
    | _ => none

def ghostA (g : Ghost) (e : Env) (σ : Sto) : Option (Env × Sto) :=
  match g with
  | .kill ts => some (ts.foldl (fun e t => e.set t .und) e, σ)
  | .freeze t =>
    match e.getD t .und with
    | .ref o gen off len k =>
      match σ[o]? with
      | some (.cells nl cs) =>
        if cs.length = gen ∧ off + len * k ≤ gen ∧ 0 < k ∧ AVal.pures cs then
          some (e.set t (if nl && cs.isEmpty then .nils else .list k (chunk k len ((cs.drop off).take (len * k)))), σ.set o .dead)
        else none
      | _ => none
    | .ptr o gen off =>
      match σ[o]? with
      | some (.cells _ cs) => if cs.length = gen ∧ AVal.pures cs then some (e.set t (.fptr (cs.drop off)), σ.set o .dead) else none
      | _ => none
    | .map o =>
      match σ[o]? with
      | some (.map ks vs) => if AVal.pures ks ∧ AVal.pures vs then some (e.set t (.fmap ks vs), σ.set o .dead) else none
      | _ => none
    | v => if v.pure then some (e, σ) else none
  | .dfreeze t =>
    match deepA snapDepth σ (e.getD t .und) with
    | some (v, σ') => some (e.set t v, σ')
    | none => none
  | .inner t =>
    match e.getD t .und with
    | .ref o gen _ _ _ | .ptr o gen _ =>
      match σ[o]? with
      | some (.cells nl cs) =>
        if cs.length = gen then
          match deepL (deepA snapDepth) σ cs with
          | some (cs', σ1) =>
            match σ1[o]? with
            | some (.cells _ _) => some (e, σ1.set o (.cells nl cs'))
            | _ => none
          | none => none
        else none
      | _ => none
    | _ => none
  | .nilref t k =>
    match e.getD t .und with
    | .nils => some (e.set t (.ref σ.length 0 0 0 k), σ ++ [.cells true []])
    | _ => none

def wpGOps (cw : CallW) (lv : List Nat) : List GOp → Env → Sto → (Env → Sto → Prop) → Prop
  | [], e, σ, K => K e σ
  | .op o :: os, e, σ, K => wpOpsA cw lv [o] e σ fun e' σ' => wpGOps cw lv os e' σ' K
  | .gh g :: os, e, σ, K =>
    match ghostA g e σ with
    | some (e', σ') => wpGOps cw lv os e' σ' K
    | none => False

def wpCode (cw : CallW) (n : Nat) : List Nat → ACode → Env → Sto → Post3 → Prop
  | _, .skip, e, σ, Q => Q .normal e σ
  | lv, .region _ ops, e, σ, Q => wpOpsA cw lv ops e σ (Q .normal)
  | lv, .regionG xs, e, σ, Q => wpGOps cw lv xs e σ (Q .normal)
  | lv, .seq a b, e, σ, Q => wpCode cw n lv a e σ fun x e' σ' => match x with
    | .normal => wpCode cw n lv b e' σ' Q
    | x => Q x e' σ'
  | lv, .cond c a b, e, σ, Q =>
    match ev e c with
    | .bool t => if t then wpCode cw n lv a e σ Q else wpCode cw n lv b e σ Q
    | _ => False
  | lv, .block id b, e, σ, Q => wpCode cw n lv b e σ fun x e' σ' => match x with
    | .exit i => if i = id then Q .normal e' σ' else Q (.exit i) e' σ'
    | x => Q x e' σ'
  | lv, .loop b, e, σ, Q => loopA (wpCode cw n lv b) n e σ Q
  | lv, .scope b, e, σ, Q => wpCode cw n lv b e σ Q
  | _, .exit id, e, σ, Q => Q (.exit id) e σ
  | _, .ret, e, σ, Q => Q .ret e σ
  | lv, .trunc b, e, σ, Q => wpCode cw n lv b e σ fun x e' σ' => match x with
    | .ret => Q .ret e' σ'
    | x => (σ'.take σ.length).all (AObj.under σ.length) = true ∧ Q x (sanitize σ.length e') (σ'.take σ.length)
  | _, .ghost g, e, σ, Q =>
    match ghostA g e σ with
    | some (e', σ') => Q .normal e' σ'
    | none => False

def resA (e : Env) (σ : Sto) : ARes → Option AVal
  | .tmp t => some (e.getD t .und)
  | .cell t agg n =>
    match e.getD t .und with
    | .ptr o gen off =>
      match σ[o]? with
      | some (.cells _ cs) => if cs.length = gen then loadA agg n (cs.drop off) else none
      | _ => none
    | _ => none

def resultsA (rs : List ARes) (e : Env) (σ : Sto) : Option AVal :=
  match rs.mapM (resA e σ) with
  | some [v] => some v
  | some vs => some (.tup vs)
  | none => none

def initEnv (n : Nat) (args : List AVal) : Env := args ++ List.replicate (n - args.length) .und

def retA (af : AFunc) (x : AExit) (e : Env) (σ : Sto) (Q : Post) : Prop :=
  match x with
  | .exit _ => False
  | _ =>
    match resultsA af.results e σ with
    | some v => Q v σ
    | none => False

def callW (T : FuncId → Option AFunc) : Nat → CallW
  | 0, _, _, _, _, _, _ => False
  | n + 1, true, f, args, _, σ, Q =>
    match args.mapM (snapA σ snapDepth), T f with
    | some as, some af => wpCode (callW T n) n [] af.code (initEnv af.ntmps as) [] fun x e σ' => retA af x e σ' fun v σ'' =>
        match snapA σ'' snapDepth v with
        | some v' => (AVal.pures args = true ∨ v'.flat = true) ∧ Q v' σ
        | none => False
    | _, _ => False
  | n + 1, false, f, args, lv, σ, Q =>
    match T f with
    | some af => wpCode (callW T n) n lv af.code (initEnv af.ntmps args) σ fun x e σ' => retA af x e σ' Q
    | none => False

end Go.Abs
