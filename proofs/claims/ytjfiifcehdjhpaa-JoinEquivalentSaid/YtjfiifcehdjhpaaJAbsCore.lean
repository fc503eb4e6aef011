/- Parts of the proof: AbsCore, AbsDet, AbsMono, AbsRun, AbsEnv, C40F. -/
import GoSem.Core.Code
import GoSem.Op.String
import Derived.Attr
set_option linter.all false
/- An abstract machine for the model's Code: values as trees, a small store, one text order. -/
namespace Go.Abs
open Go

inductive AVal where
 | und
 | bool (b : Bool)
 | int (k : IntKind) (n : Int)
 | str (s : ByteArray)
 | nils
 | emp
 | list (k : Nat) (xs : List AVal)
 | ref (o gen off len k : Nat)
 | nilp
 | fptr (cs : List AVal)
 | ptr (o gen off : Nat)
 | nilm
 | fmap (ks vs : List AVal)
 | map (o : Nat)
 | nilf
 | clo (f : Fn) (first captured : List AVal)
 | nili
 | iface (t : TypeId) (v : AVal)
 | agg (cs : List AVal)
 | tup (vs : List AVal)
 | yld (o : Nat)   -- the 'yield' of the range over a function that object o stands for
 deriving Inhabited

def AVal.cells : AVal → List AVal
 | .agg cs => cs
 | v => [v]

def AVal.one : AVal → Bool
 | .und | .agg _ | .tup _ => false
 | _ => true

def AVal.fits (n : Nat) : AVal → Bool
 | .und | .tup _ => false
 | .agg cs => cs.length == n && cs.all AVal.one
 | _ => n == 1

mutual
def AVal.names (p : Nat → Bool) : AVal → Bool
 | .ref o .. | .ptr o .. | .map o | .yld o => p o
 | .clo _ a b => AVal.namesL p a && AVal.namesL p b
 | .iface _ v => v.names p
 | .agg cs => AVal.namesL p cs
 | .tup vs => AVal.namesL p vs
 | _ => true
def AVal.namesL (p : Nat → Bool) : List AVal → Bool
 | [] => true
 | v :: vs => v.names p && AVal.namesL p vs
end
abbrev AVal.pure (v : AVal) : Bool := v.names fun _ => false
abbrev AVal.pures (vs : List AVal) : Bool := AVal.namesL (fun _ => false) vs
abbrev AVal.under (l : Nat) (v : AVal) : Bool := v.names fun o => decide (o < l)
abbrev AVal.unders (l : Nat) (vs : List AVal) : Bool := AVal.namesL (fun o => decide (o < l)) vs

mutual
def AVal.flat : AVal → Bool
 | .ref .. | .ptr .. | .map _ | .list .. | .fptr _ | .fmap .. | .emp | .yld _ => false
 | .clo _ a b => AVal.flats a && AVal.flats b
 | .iface _ v => v.flat
 | .agg cs => AVal.flats cs
 | .tup vs => AVal.flats vs
 | _ => true
def AVal.flats : List AVal → Bool
 | [] => true
 | v :: vs => v.flat && AVal.flats vs
end

def AVal.isUnd : AVal → Bool
 | .und => true
 | _ => false

abbrev Env := List AVal

inductive Opd where
 | tmp (t : Nat)
 | cst (v : AVal)
 deriving Inhabited

def ev (e : Env) : Opd → AVal
 | .tmp t => e.getD t .und
 | .cst v => v

inductive Shape where
 | bool | int (k : IntKind) | str
 | row (parts : List (Nat × Nat × Bool × Shape))   -- each part: offset, size, is it an aggregate
 deriving Inhabited

inductive LenK where
 | str | sl | mp
 deriving Inhabited

inductive NilK where
 | sl | mp | fn | pt
 deriving DecidableEq, Inhabited

inductive AOp where
 | mv (x : Opd)
 | pick (c a b : Opd)
 | alloc (zero : List AVal)
 | box (n : Nat) (x : Opd)
 | build (zero : List AVal) (parts : List (Nat × Nat × Opd))
 | bslice (k len : Nat) (zero : List AVal) (parts : List (Nat × Opd))
 | flist (k len : Nat) (zero : List AVal) (parts : List (Nat × Opd))   -- the same, where nobody writes to it
 | load (agg : Bool) (n : Nat) (x : Opd)
 | store (n : Nat) (a v : Opd)
 | nilck (x : Opd)
 | bin (op : BinOp) (x y : Opd)
 | eqs (neg : Bool) (sh : Shape) (x y : Opd)
 | eqnil (neg : Bool) (kd : NilK) (x : Opd)
 | un (op : UnOp) (x : Opd)
 | conv (k : IntKind) (x : Opd)
 | same (x : Opd)
 | mkif (t : TypeId) (x : Opd)
 | mkfn (f : Fn) (first captured : List Opd)
 | mkmap
 | mkslice (k bytes : Nat) (zero : List AVal) (l c : Opd)
 | slice (k : Nat) (x : Opd) (lo hi mx : Option Opd)
 | slstr (x : Opd) (lo hi : Option Opd)
 | slarr (n k : Nat) (x : Opd) (lo hi : Option Opd)
 | faddr (off : Nat) (x : Opd)
 | field (off size : Nat) (agg : Bool) (x : Opd)
 | iaddr (k : Nat) (x i : Opd)
 | iaddrA (n k : Nat) (x i : Opd)
 | idxA (n k : Nat) (agg : Bool) (x i : Opd)
 | idxS (x i : Opd)
 | lookup (sh : Shape) (zero : AVal) (ok : Bool) (m i : Opd)
 | mapup (sh : Shape) (m k v : Opd)
 | extr (x : Opd) (i : Nat)
 | len (kd : LenK) (x : Opd)
 | cap (x : Opd)
 | append (k bytes : Nat) (s x : Opd)
 | appendz (k bytes : Nat) (zero : List AVal) (s x : Opd)
 | appendF (k bytes : Nat) (s x : Opd)   -- the same, where nobody writes to the result
 | copy (k : Nat) (d s : Opd)
 | clear (zero : List AVal) (x : Opd)
 | delete (sh : Shape) (m k : Opd)
 | minmax (isMax : Bool) (xs : List Opd)
 | arrp (n k : Nat) (x : Opd)
 | mapent (sh : Shape) (zero : AVal) (m k : Opd)   -- the entry of a key: its value, its number
 | entst (m s v : Opd)   -- a value into the entry of a number
 | mkslF (k bytes : Nat) (zero : List AVal) (l c : Opd)   -- mkslice, where nobody writes to it
 | allocn (zero : List AVal) (off k : Nat)   -- alloc, where the nil at off is a slice that can grow
 | call (isPure : Bool) (f : FuncId) (args : List Opd)
 | callv (isPure : Bool) (x : Opd) (args : List Opd)
 | unsup
 deriving Inhabited

structure AOper where
 dst : Option Nat
 op : AOp
 guard : Option (Option Nat × Bool)   -- the place of the guard's value
 after : List Nat
 reads : List Nat
 deriving Inhabited

inductive Ghost where
 | kill (ts : List Nat)
 | freeze (t : Nat)
 | nilref (t k : Nat)
 | nilagg (t off k : Nat)   -- a nil part of an aggregate becomes a slice that can grow
 | dfreeze (t : Nat)   -- freezes t with all that it names
 | inner (t : Nat)   -- freezes all that t's object names
 deriving Inhabited

inductive GOp where
 | op (o : AOper)
 | gh (g : Ghost)
 deriving Inhabited

def GOp.oper? : GOp → Option AOper
 | .op o => some o
 | .gh _ => none

structure SepC where
 ws : List Nat
 ps : List Nat
 chk : List (List Nat × List Nat)
 deriving Inhabited

def AVal.apart (u v : AVal) : Bool := !v.isUnd && u.names fun o => v.names fun q => decide (o ≠ q)
def AVal.there : AVal → Bool
 | .nils | .emp => false
 | _ => true
def sepA (s : SepC) (e : Env) : Bool := s.ws.all (fun t => (e.getD t .und).there) && s.ps.all (fun t => (e.getD t .und).pure) && s.chk.all fun p => p.1.all fun x => p.2.all fun y => (e.getD x .und).apart (e.getD y .und)

def altOps {α : Type} (c m : Nat) (l : List α) : List α := l.take c ++ (l.drop m).take 1 ++ (l.drop c).take (m - c) ++ l.drop (m + 1)

inductive ACode where
 | skip
 | region (draw : Bool) (ops : List AOper)
 | regionG (xs : List GOp)
 | regionD (s : SepC) (ops : List AOper)
 | regionA (c m : Nat) (ops : List AOper)   -- either of c and m may come first
 | seq (a b : ACode)
 | cond (c : Opd) (thn els : ACode)
 | block (id : Nat) (body : ACode)
 | loop (body : ACode)
 | exit (id : Nat)
 | ret
 | trunc (body : ACode)
 | scope (body : ACode)
 | ghost (g : Ghost)
 | rangeF (x : Opd) (ps : List Nat) (body : ACode)   -- for ps := range x { body }
 deriving Inhabited

inductive AExit where
 | normal
 | exit (id : Nat)
 | ret
 deriving DecidableEq, Inhabited

inductive LSt where
 | ready
 | busy
 | done (x : AExit)
 deriving Inhabited

inductive AObj where
 | cells (nl : Bool) (cs : List AVal)
 | map (ks vs : List AVal)
 | loop (ps : List Nat) (body : ACode) (e : Env) (st : LSt)   -- a range over a function
 | dead
 deriving Inhabited

abbrev Sto := List AObj

def AObj.under (l : Nat) : AObj → Bool
 | .cells _ cs => AVal.unders l cs
 | .map ks vs => AVal.unders l ks && AVal.unders l vs
 | .loop _ _ e _ => AVal.unders l e
 | .dead => true

def put (e : Env) : Option Nat → AVal → Env
 | some d, v => e.set d v
 | none, _ => e

def binInt (op : BinOp) (k : IntKind) (a b : Int) : Option AVal :=
 match op with
 | .add => some (.int k (k.wrap (a + b)))
 | .sub => some (.int k (k.wrap (a - b)))
 | .mul => some (.int k (k.wrap (a * b)))
 | .quo => if b = 0 then none else some (.int k (k.wrap (a.tdiv b)))
 | .rem => if b = 0 then none else some (.int k (a.tmod b))
 | .and => some (.int k (k.wrap (BitVec.ofInt k.bits a &&& BitVec.ofInt k.bits b).toNat))
 | .or => some (.int k (k.wrap (BitVec.ofInt k.bits a ||| BitVec.ofInt k.bits b).toNat))
 | .xor => some (.int k (k.wrap (BitVec.ofInt k.bits a ^^^ BitVec.ofInt k.bits b).toNat))
 | .andNot => some (.int k (k.wrap (BitVec.ofInt k.bits a &&& ~~~BitVec.ofInt k.bits b).toNat))
 | .eql => some (.bool (a == b))
 | .neq => some (.bool (a != b))
 | .lss => some (.bool (a < b))
 | .leq => some (.bool (a ≤ b))
 | .gtr => some (.bool (a > b))
 | .geq => some (.bool (a ≥ b))
 | _ => none

def binStr (op : BinOp) (x y : ByteArray) : Option AVal :=
 match op with
 | .add => if ((x.size + y.size : Nat) : Int) ≤ IntKind.i64.max then some (.str (x ++ y)) else none
 | .eql => some (.bool (x.toList == y.toList))
 | .neq => some (.bool !(x.toList == y.toList))
 | .lss => some (.bool (Op.bytesLess x.toList y.toList))
 | .leq => some (.bool (Op.bytesLess x.toList y.toList || x.toList == y.toList))
 | .gtr => some (.bool !(Op.bytesLess x.toList y.toList || x.toList == y.toList))
 | .geq => some (.bool !(Op.bytesLess x.toList y.toList))
 | _ => none

def binA (op : BinOp) (x y : AVal) : Option AVal :=
 match x, y with
 | .int k a, .int yk b =>
  match op with
  | .shl => if b < 0 then none else some (.int k (k.wrap (a * 2 ^ (min b.toNat k.bits))))
  | .shr => if b < 0 then none else some (.int k (a.fdiv (2 ^ (min b.toNat k.bits))))
  | _ => if k = yk then binInt op k a b else none
 | .str a, .str b => binStr op a b
 | _, _ => none

def unA (op : UnOp) (x : AVal) : Option AVal :=
 match op, x with
 | .neg, .int k n => some (.int k (k.wrap (0 - n)))
 | .xor, .int k n => some (.int k (k.wrap (BitVec.ofInt k.bits (if k.signed then -1 else k.max) ^^^ BitVec.ofInt k.bits n).toNat))
 | .not, .bool b => some (.bool !b)
 | _, _ => none

mutual
def eqA : Shape → AVal → AVal → Option Bool
 | .bool, .bool a, .bool b => some (a == b)
 | .int _, .int k a, .int k' b => if k = k' then some (a == b) else none
 | .str, .str a, .str b => some (a == b)
 | .row ps, .agg xs, .agg ys => eqParts ps xs ys
 | _, _, _ => none
def eqParts : List (Nat × Nat × Bool × Shape) → List AVal → List AVal → Option Bool
 | [], _, _ => some true
 | (off, n, agg, sh) :: ps, xs, ys =>
  match (if agg then some (AVal.agg ((xs.drop off).take n)) else xs[off]?), (if agg then some (AVal.agg ((ys.drop off).take n)) else ys[off]?) with
  | some x, some y =>
   match eqA sh x y with
   | some true => eqParts ps xs ys
   | r => r
  | _, _ => none
end

def sameS : AVal → AVal → Bool
 | .bool a, .bool b => a == b
 | .int j a, .int k b => j == k && a == b
 | .str a, .str b => a == b
 | _, _ => false
def sameL : List AVal → List AVal → Bool
 | [], [] => true
 | x :: xs, y :: ys => sameS x y && sameL xs ys
 | _, _ => false
def sameA : AVal → AVal → Bool
 | .agg xs, .agg ys => sameL xs ys
 | x, y => sameS x y

def findA (sh : Shape) (k : AVal) : List AVal → Nat → Option (Option Nat)
 | [], _ => some none
 | x :: ks, i =>
  match eqA sh k x with
  | some true => some (some i)
  | some false => findA sh k ks (i + 1)
  | none => none

def loadA (agg : Bool) (n : Nat) (cs : List AVal) : Option AVal :=
 if agg then (if n ≤ cs.length then some (.agg (cs.take n)) else none) else cs.head?

def overwrite (cs : List AVal) (off : Nat) (new : List AVal) : List AVal :=
 cs.take off ++ new ++ cs.drop (off + new.length)

def fillA (cells : List AVal) : List (Nat × Nat × AVal) → Option (List AVal)
 | [] => some cells
 | (off, size, v) :: rest => if v.fits size && decide (off + size ≤ cells.length) then fillA (overwrite cells off v.cells) rest else none

def chunk (k : Nat) : Nat → List AVal → List AVal
 | 0, _ => []
 | n + 1, cs => (if k = 1 then cs.headD .und else .agg (cs.take k)) :: chunk k n (cs.drop k)

def rowOf (σ : Sto) : AVal → Option (Nat × List AVal)
 | .nils | .emp => some (0, [])
 | .list _ xs => some (xs.length, xs.flatMap AVal.cells)
 | .ref o gen off len k =>
  match σ[o]? with
  | some (.cells _ cs) => if cs.length = gen then some (len, (cs.drop off).take (len * k)) else none
  | _ => none
 | _ => none

def natOf : AVal → Option Nat
 | .int _ n => if 0 ≤ n then some n.toNat else none
 | _ => none

def bound (e : Env) (x : Option Opd) (d : Nat) : Option Nat :=
 match x with
 | some o => natOf (ev e o)
 | none => some d

def lvOk (lv : List Nat) (o : Nat) (vs : List AVal) : Bool :=
 lv.all fun l => decide (l ≤ o) || AVal.unders l vs

def maxBytes : Nat := 140737488355328

def stepOp (lv : List Nat) (op : AOp) (e : Env) (σ : Sto) : Option (AVal × Sto) :=
 match op with
 | .mv x => some (ev e x, σ)
 | .pick c a b =>
  match ev e c with
  | .bool t => some (if t then ev e a else ev e b, σ)
  | _ => none
 | .alloc zero => some (.ptr σ.length zero.length 0, σ ++ [.cells false zero])
 | .box n x => if (ev e x).fits n then some (.ptr σ.length n 0, σ ++ [.cells false (ev e x).cells]) else none
 | .build zero parts => (fillA zero (parts.map fun (o, s, x) => (o, s, ev e x))).map fun cs => (.agg cs, σ)
 | .bslice k len zero parts =>
  (fillA (List.replicate len zero).flatten (parts.map fun (i, x) => (i * k, k, ev e x))).map fun cs => (.ref σ.length cs.length 0 len k, σ ++ [.cells false cs])
 | .flist k len zero parts =>
  (fillA (List.replicate len zero).flatten (parts.map fun (i, x) => (i * k, k, ev e x))).bind fun cs => if AVal.pures cs = true ∧ cs.length = len * k ∧ 0 < k then some (.list k (chunk k len cs), σ) else none
 | .load agg n x =>
  match ev e x with
  | .fptr cs => (loadA agg n cs).map (·, σ)
  | .ptr o gen off =>
   match σ[o]? with
   | some (.cells _ cs) => if cs.length = gen then (loadA agg n (cs.drop off)).map (·, σ) else none
   | _ => none
  | _ => none
 | .store n a v =>
  match ev e a with
  | .ptr o gen off =>
   match σ[o]? with
   | some (.cells nl cs) =>
    if cs.length = gen ∧ off + n ≤ gen ∧ (ev e v).fits n ∧ lvOk lv o (ev e v).cells then
     some (.und, σ.set o (.cells nl (overwrite cs off (ev e v).cells))) else none
   | _ => none
  | _ => none
 | .nilck x =>
  match ev e x with
  | .ptr .. | .fptr _ | .clo (.func _) _ _ => some (ev e x, σ)
  | _ => none
 | .bin op x y => (binA op (ev e x) (ev e y)).map (·, σ)
 | .eqs neg sh x y => (eqA sh (ev e x) (ev e y)).map fun b => (.bool (if neg then !b else b), σ)
 | .eqnil neg kd x =>
  match kd, ev e x with
  | .sl, .nils | .pt, .nilp | .mp, .nilm | .fn, .nilf => some (.bool !neg, σ)
  | .sl, .emp | .sl, .list .. | .fn, .clo .. | .pt, .fptr _ | .mp, .fmap .. | .pt, .ptr .. | .mp, .map _ => some (.bool neg, σ)
  | .sl, .ref o gen _ _ _ =>
   match σ[o]? with
   | some (.cells nl cs) => if cs.length = gen then some (.bool (if nl && cs.isEmpty then !neg else neg), σ) else none
   | _ => none
  | _, _ => none
 | .un op x => (unA op (ev e x)).map (·, σ)
 | .conv k x =>
  match ev e x with
  | .int _ n => some (.int k (k.wrap n), σ)
  | _ => none
 | .same x =>
  match ev e x with
  | .str s => some (.str s, σ)
  | _ => none
 | .mkif t x => if (ev e x).isUnd then none else some (.iface t (ev e x), σ)
 | .mkfn f first captured => some (.clo f (first.map (ev e)) (captured.map (ev e)), σ)
 | .mkmap => some (.map σ.length, σ ++ [.map [] []])
 | .mkslice k bytes zero l c =>
  match ev e l, ev e c with
  | .int .i64 l, .int .i64 c =>
   if 0 ≤ l ∧ l ≤ c ∧ bytes * c.toNat ≤ 2 * maxBytes ∧ c ≤ IntKind.i64.max then
    some (.ref σ.length (c.toNat * k) 0 l.toNat k, σ ++ [.cells false (List.replicate c.toNat zero).flatten]) else none
  | _, _ => none
 | .slice k x lo hi mx =>
  match ev e x with
  | .nils => if bound e lo 0 = some 0 ∧ bound e hi 0 = some 0 ∧ bound e mx 0 = some 0 then some (.nils, σ) else none
  | .list k' xs =>
   match bound e lo 0, bound e hi xs.length, bound e mx xs.length with
   | some l, some h, some m =>
    if l ≤ h ∧ h ≤ m ∧ m ≤ xs.length ∧ k = k' then (if m = 0 ∧ mx.isSome then some (.emp, σ) else some (.list k ((xs.take h).drop l), σ)) else none
   | _, _, _ => none
  | .ref o gen off len k' =>
   match σ[o]? with
   | some (.cells nl cs) =>
    if cs.length = gen ∧ k = k' ∧ 0 < k then
     if nl && cs.isEmpty then
      (if bound e lo 0 = some 0 ∧ bound e hi 0 = some 0 ∧ bound e mx 0 = some 0 then some (.nils, σ) else none)
     else
     match mx with
     | none =>
      match bound e lo 0, bound e hi len with
      | some l, some h => if l ≤ h ∧ off + h * k ≤ gen then (if off + l * k = gen then some (.list k [], σ) else some (.ref o gen (off + l * k) (h - l) k, σ)) else none
      | _, _ => none
     | some _ =>
      match bound e lo 0, bound e hi len, bound e mx 0 with
      | some l, some h, some m => if l ≤ h ∧ h ≤ m ∧ off + m * k ≤ gen then some (if m = 0 then .emp else .und, σ) else none
      | _, _, _ => none
    else none
   | _ => none
  | _ => none
 | .slstr x lo hi =>
  match ev e x with
  | .str s =>
   match bound e lo 0, bound e hi s.size with
   | some l, some h => if l ≤ h ∧ h ≤ s.size then some (.str (s.extract l h), σ) else none
   | _, _ => none
  | _ => none
 | .slarr n k x lo hi =>
  match ev e x, bound e lo 0, bound e hi n with
  | .ptr o gen off, some l, some h =>
   match σ[o]? with
   | some (.cells false cs) =>
    if cs.length = gen ∧ l ≤ h ∧ h ≤ n ∧ off + n * k = gen ∧ 0 < k then (if l = n then some (.list k [], σ) else some (.ref o gen (off + l * k) (h - l) k, σ)) else none
   | _ => none
  | .fptr cs, some l, some h => if l ≤ h ∧ h ≤ n ∧ n * k ≤ cs.length ∧ 0 < k then some (.list k (chunk k (h - l) (cs.drop (l * k))), σ) else none
  | _, _, _ => none
 | .faddr off x =>
  match ev e x with
  | .ptr o gen a => some (.ptr o gen (a + off), σ)
  | .fptr cs => some (.fptr (cs.drop off), σ)
  | _ => none
 | .field off size agg x =>
  match ev e x with
  | .agg cs => if off + size ≤ cs.length then (loadA agg size (cs.drop off)).map (·, σ) else none
  | _ => none
 | .iaddr k x i =>
  match ev e x, natOf (ev e i) with
  | .list k' xs, some i => if k = k' then (xs[i]?).map fun v => (.fptr v.cells, σ) else none
  | .ref o gen off len k', some i =>
   match σ[o]? with
   | some (.cells _ cs) => if i < len ∧ k = k' ∧ cs.length = gen then some (.ptr o gen (off + i * k), σ) else none
   | _ => none
  | _, _ => none
 | .iaddrA n k x i =>
  match ev e x, natOf (ev e i) with
  | .ptr o gen off, some i => if i < n then some (.ptr o gen (off + i * k), σ) else none
  | .fptr cs, some i => if i < n then some (.fptr (cs.drop (i * k)), σ) else none
  | _, _ => none
 | .idxA n k agg x i =>
  match ev e x, natOf (ev e i) with
  | .agg cs, some i => if i < n ∧ i * k + k ≤ cs.length then (loadA agg k (cs.drop (i * k))).map (·, σ) else none
  | _, _ => none
 | .idxS x i =>
  match ev e x, natOf (ev e i) with
  | .str s, some i => (s[i]?).map fun b => (.int .u8 b.toNat, σ)
  | _, _ => none
 | .lookup sh zero ok m i =>
  let res (v : AVal) (b : Bool) : AVal := if ok then .tup [v, .bool b] else v
  let look (ks vs : List AVal) : Option (AVal × Sto) :=
   if eqA sh (ev e i) (ev e i) = some true then
    match findA sh (ev e i) ks 0 with
    | some (some j) => (vs[j]?).map fun v => (res v true, σ)
    | some none => some (res zero false, σ)
    | none => none
   else none
  match ev e m with
  | .nilm => look [] []
  | .fmap ks vs => look ks vs
  | .map o =>
   match σ[o]? with
   | some (.map ks vs) => look ks vs
   | _ => none
  | _ => none
 | .mapup sh m k v =>
  match ev e m with
  | .map o =>
   match σ[o]? with
   | some (.map ks vs) =>
    if lvOk lv o [ev e k, ev e v] ∧ eqA sh (ev e k) (ev e k) = some true then
     match findA sh (ev e k) ks 0 with
     | some (some j) => if sameA (ev e k) (ks.getD j .und) then some (.und, σ.set o (.map ks (vs.set j (ev e v)))) else none
     | some none => some (.und, σ.set o (.map (ks ++ [ev e k]) (vs ++ [ev e v])))
     | none => none
    else none
   | _ => none
  | _ => none
 | .extr x i =>
  match ev e x with
  | .tup vs => (vs[i]?).map (·, σ)
  | _ => none
 | .len kd x =>
  match kd, ev e x with
  | .sl, .nils | .sl, .emp | .mp, .nilm => some (.int .i64 0, σ)
  | .sl, .list _ xs => some (.int .i64 xs.length, σ)
  | .str, .str s => some (.int .i64 s.size, σ)
  | .mp, .fmap ks _ => some (.int .i64 ks.length, σ)
  | .sl, .ref o gen _ len _ =>
   match σ[o]? with
   | some (.cells _ cs) => if cs.length = gen then some (.int .i64 len, σ) else none
   | _ => none
  | .mp, .map o =>
   match σ[o]? with
   | some (.map ks _) => some (.int .i64 ks.length, σ)
   | _ => none
  | _, _ => none
 | .cap x =>
  match ev e x with
  | .nils | .emp => some (.int .i64 0, σ)
  | _ => none
 | .unsup => none
 | .append k bytes s x =>
  match rowOf σ (ev e x) with
  | none => none
  | some (m, new) =>
   if new.length = m * k ∧ 0 < k ∧ new.all AVal.one then
    match ev e s with
    | .nils | .emp => if m = 0 then some (ev e s, σ) else if m * bytes ≤ maxBytes then some (.ref σ.length (m * k) 0 m k, σ ++ [.cells false new]) else none
    | .ref o gen off len k' =>
     match σ[o]? with
     | some (.cells nl cs) =>
      if cs.length = gen ∧ k = k' ∧ lvOk lv o new then
       if m = 0 then some (ev e s, σ)
       else if off + (len + m) * k ≤ gen then some (.ref o gen off (len + m) k, σ.set o (.cells nl (overwrite cs (off + len * k) new)))
       else if off = 0 ∧ (len + m) * bytes ≤ maxBytes then some (.ref o ((len + m) * k) 0 (len + m) k, σ.set o (.cells nl (cs.take (len * k) ++ new)))
       else none
      else none
     | _ => none
    | _ => none
   else none
 | .appendF k bytes s x =>
  match rowOf σ (ev e x), ev e s with
  | some (m, new), .ref o gen off len k' =>
   match σ[o]? with
   | some (.cells false cs) =>
    if new.length = m * k ∧ 0 < k ∧ new.all AVal.one ∧ cs.length = gen ∧ k = k' ∧ lvOk lv o new ∧ off = 0 ∧ len * k = gen ∧ (len + m) * bytes ≤ maxBytes ∧ AVal.pures (cs ++ new) then
     some (.list k (chunk k (len + m) (cs ++ new)), σ.set o .dead)
    else none
   | _ => none
  | _, _ => none
 | .appendz k bytes zero s x =>
  match ev e s, ev e x with
  | .nils, .int .i64 n =>
   if 0 ≤ n ∧ n.toNat * bytes ≤ maxBytes ∧ 0 < k then
    (if n = 0 then some (.nils, σ) else some (.ref σ.length (n.toNat * k) 0 n.toNat k, σ ++ [.cells false (List.replicate n.toNat zero).flatten])) else none
  | _, _ => none
 | .copy k d s =>
  match ev e d, rowOf σ (ev e s) with
  | .nils, some _ => some (.int .i64 0, σ)
  | .ref o gen off len k', some (m, src) =>
   match σ[o]? with
   | some (.cells nl cs) =>
    if cs.length = gen ∧ k = k' ∧ src.length = m * k ∧ off + len * k ≤ gen ∧ lvOk lv o src ∧ src.all AVal.one then
     some (.int .i64 (min m len : Nat), σ.set o (.cells nl (overwrite cs off (src.take (min m len * k))))) else none
   | _ => none
  | _, _ => none
 | .clear zero x =>
  match ev e x with
  | .nils | .nilm | .emp => some (.tup [], σ)
  | .list _ [] => some (.tup [], σ)
  | .ref o gen off len k =>
   match σ[o]? with
   | some (.cells nl cs) =>
    if cs.length = gen ∧ k = zero.length ∧ off + len * k ≤ gen ∧ lvOk lv o zero then
     some (.tup [], σ.set o (.cells nl (overwrite cs off (List.replicate len zero).flatten))) else none
   | _ => none
  | _ => none
 | .delete sh m k =>
  match ev e m with
  | .map o =>
   match σ[o]? with
   | some (.map ks vs) =>
    if eqA sh (ev e k) (ev e k) = some true then
     match findA sh (ev e k) ks 0 with
     | some (some j) => none   -- entries keep their numbers
     | some none => some (.tup [], σ)
     | none => none
    else none
   | _ => none
  | _ => none
 | .minmax isMax xs =>
  match xs.map (ev e) with
  | .int k a :: rest =>
   (rest.foldlM (fun (m : Int) (v : AVal) => match v with
    | .int _ y => some (if isMax then (if m < y then y else m) else (if y < m then y else m))
    | _ => none) a).map fun m => (.int k m, σ)
  | _ => none
 | .arrp n k x =>
  match ev e x with
  | .ref o gen off len k' =>
   match σ[o]? with
   | some (.cells false cs) => if cs.length = gen ∧ k = k' ∧ n ≤ len then some (.ptr o gen off, σ) else none
   | _ => none
  | .list k' xs => if n ≤ xs.length ∧ 0 < n ∧ k = k' then some (.fptr ((xs.take n).flatMap AVal.cells), σ) else none
  | _ => none
 | .mapent sh zero m k =>
  match ev e m with
  | .map o =>
   match σ[o]? with
   | some (.map ks vs) =>
    if lvOk lv o [ev e k, zero] ∧ eqA sh (ev e k) (ev e k) = some true then
     match findA sh (ev e k) ks 0 with
     | some (some j) => if sameA (ev e k) (ks.getD j .und) then (vs[j]?).map fun v => (.tup [v, .int .i64 j], σ) else none
     | some none => some (.tup [zero, .int .i64 ks.length], σ.set o (.map (ks ++ [ev e k]) (vs ++ [zero])))
     | none => none
    else none
   | _ => none
  | _ => none
 | .entst m s v =>
  match ev e m, ev e s with
  | .map o, .int .i64 j =>
   match σ[o]? with
   | some (.map ks vs) => if 0 ≤ j ∧ j.toNat < vs.length ∧ lvOk lv o [ev e v] then some (.und, σ.set o (.map ks (vs.set j.toNat (ev e v)))) else none
   | _ => none
  | _, _ => none
 | .mkslF k bytes zero l c =>
  match ev e l, ev e c with
  | .int .i64 l, .int .i64 c =>
   if 0 ≤ l ∧ l = c ∧ bytes * c.toNat ≤ 2 * maxBytes ∧ c ≤ IntKind.i64.max ∧ zero.length = k ∧ 0 < k ∧ AVal.pures (List.replicate c.toNat zero).flatten = true then
    some (.list k (chunk k c.toNat (List.replicate c.toNat zero).flatten), σ) else none
  | _, _ => none
 | .allocn zero off k =>
  match zero[off]? with
  | some .nils => some (.ptr σ.length zero.length 0, σ ++ [.cells false (zero.set off (.ref (σ.length + 1) 0 0 0 k)), .cells true []])
  | _ => none
 | .call .. | .callv .. => none


def snapA (σ : Sto) : Nat → AVal → Option AVal
 | 0, _ => none
 | n + 1, v =>
  if v.pure then some v else
  match v with
  | .ref o gen off len k =>
   match σ[o]? with
   | some (.cells nl cs) =>
    if cs.length = gen ∧ off + len * k ≤ gen ∧ 0 < k then
     (if nl && cs.isEmpty then some .nils else (((cs.drop off).take (len * k)).mapM (snapA σ n)).map fun cs' => .list k (chunk k len cs'))
    else none
   | _ => none
  | .ptr o gen off =>
   match σ[o]? with
   | some (.cells _ cs) => if cs.length = gen then ((cs.drop off).mapM (snapA σ n)).map .fptr else none
   | _ => none
  | .map o =>
   match σ[o]? with
   | some (.map ks vs) =>
    match ks.mapM (snapA σ n), vs.mapM (snapA σ n) with
    | some ks', some vs' => some (.fmap ks' vs')
    | _, _ => none
   | _ => none
  | .clo f a b =>
   match a.mapM (snapA σ n), b.mapM (snapA σ n) with
   | some a', some b' => some (.clo f a' b')
   | _, _ => none
  | .iface t v => (snapA σ n v).map (.iface t)
  | .agg cs => (cs.mapM (snapA σ n)).map .agg
  | .tup vs => (vs.mapM (snapA σ n)).map .tup
  | _ => none

inductive ARes where
 | tmp (t : Nat)
 | cell (t : Nat) (agg : Bool) (n : Nat)
 deriving Inhabited

structure AFunc where
 ntmps : Nat
 results : List ARes
 code : ACode
 cut : Bool := false   -- what a shared call has made is gone when it returns
 deriving Inhabited

abbrev Post := AVal → Sto → Prop
abbrev CallW := Bool → FuncId → List AVal → List Nat → Sto → Post → Prop

def yieldF : FuncId := 1000000000

def fnOk : Fn → Bool
 | .func f => f != yieldF
 | _ => true

def wpOper (cw : CallW) (lv : List Nat) (o : AOper) (e : Env) (σ : Sto) (K : Env → Sto → Prop) : Prop :=
 match o.op with
 | .call p f args => cw p f (args.map (ev e)) lv σ fun v σ' => K (put e o.dst v) σ'
 | .callv p x args =>
  match ev e x with
  | .clo (.func f) first captured => cw p f (first ++ args.map (ev e) ++ captured) lv σ fun v σ' => K (put e o.dst v) σ'
  | .yld l => p = false ∧ cw false yieldF (.yld l :: args.map (ev e)) lv σ fun v σ' => K (put e o.dst v) σ'
  | _ => False
 | op =>
  match stepOp lv op e σ with
  | some (v, σ') => K (put e o.dst v) σ'
  | none => False

def wantedA (o : AOper) (e : Env) : Option Bool :=
 match o.guard with
 | none => some true
 | some (t, want) =>
  match t.bind (e[·]?) with
  | some (.bool b) => some (b == want)
  | some (.tup _) => some false   -- the operation that it hangs on was passed over itself
  | _ => none

abbrev skipped : AVal := .tup []

def wpOpsA (cw : CallW) (lv : List Nat) : List AOper → Env → Sto → (Env → Sto → Prop) → Prop
 | [], e, σ, K => K e σ
 | o :: os, e, σ, K =>
  match wantedA o e with
  | some true => wpOper cw lv o e σ fun e' σ' => wpOpsA cw lv os e' σ' K
  | some false => wpOpsA cw lv os (put e o.dst skipped) σ K
  | none => False

abbrev Post3 := AExit → Env → Sto → Prop

def loopA (body : Env → Sto → Post3 → Prop) : Nat → Env → Sto → Post3 → Prop
 | 0, _, _, _ => False
 | n + 1, e, σ, Q => body e σ fun x e' σ' => match x with
  | .normal => loopA body n e' σ' Q
  | x => Q x e' σ'

def sanitize (n : Nat) (e : Env) : Env := e.map fun v => if v.under n then v else .und

def snapDepth : Nat := 64

def deepL (f : Sto → AVal → Option (AVal × Sto)) : Sto → List AVal → Option (List AVal × Sto)
 | σ, [] => some ([], σ)
 | σ, x :: xs =>
  match f σ x with
  | some (x', σ1) =>
   match deepL f σ1 xs with
   | some (xs', σ2) => some (x' :: xs', σ2)
   | none => none
  | none => none

def deepA : Nat → Sto → AVal → Option (AVal × Sto)
 | 0, _, _ => none
 | n + 1, σ, v =>
  if v.pure then some (v, σ) else
  match v with
  | .ref o gen off len k =>
   match σ[o]? with
   | some (.cells nl cs) =>
    if cs.length = gen ∧ off + len * k ≤ gen ∧ 0 < k then
     match deepL (deepA n) σ cs with
     | some (cs', σ1) =>
      match σ1[o]? with
      | some (.cells _ _) => some (if nl && cs.isEmpty then .nils else .list k (chunk k len ((cs'.drop off).take (len * k))), σ1.set o .dead)
      | _ => none
     | none => none
    else none
   | _ => none
  | .ptr o gen off =>
   match σ[o]? with
   | some (.cells _ cs) =>
    if cs.length = gen then
     match deepL (deepA n) σ cs with
     | some (cs', σ1) =>
      match σ1[o]? with
      | some (.cells _ _) => some (.fptr (cs'.drop off), σ1.set o .dead)
      | _ => none
     | none => none
    else none
   | _ => none
  | .clo f a b =>
   match deepL (deepA n) σ a with
   | some (a', σ1) =>
    match deepL (deepA n) σ1 b with
    | some (b', σ2) => some (.clo f a' b', σ2)
    | none => none
   | none => none
  | .agg cs =>
   match deepL (deepA n) σ cs with
   | some (cs', σ1) => some (.agg cs', σ1)
   | none => none
  | .tup cs =>
   match deepL (deepA n) σ cs with
   | some (cs', σ1) => some (.tup cs', σ1)
   | none => none
  | .map o =>
   match σ[o]? with
   | some (.map ks vs) =>
    if AVal.pures ks then
     match deepL (deepA n) σ vs with
     | some (vs', σ1) =>
      match σ1[o]? with
      | some (.map _ _) => some (.fmap ks vs', σ1.set o .dead)
      | _ => none
     | none => none
    else none
   | _ => none
  | _ => none

def nilaggV (off k : Nat) (v : AVal) (n : Nat) : Option AVal := match v with
 | .agg cs => match cs[off]? with
  | some .nils => some (.agg (cs.set off (.ref n 0 0 0 k)))
  | _ => none
 | _ => none

def ghostA (g : Ghost) (e : Env) (σ : Sto) : Option (Env × Sto) :=
 match g with
 | .kill ts => some (ts.foldl (fun e t => e.set t .und) e, σ)
 | .freeze t =>
  match e.getD t .und with
  | .ref o gen off len k =>
   match σ[o]? with
   | some (.cells nl cs) =>
    if cs.length = gen ∧ off + len * k ≤ gen ∧ 0 < k ∧ AVal.pures cs then
     some (e.set t (if nl && cs.isEmpty then .nils else .list k (chunk k len ((cs.drop off).take (len * k)))), σ.set o .dead)
    else none
   | _ => none
  | .ptr o gen off =>
   match σ[o]? with
   | some (.cells _ cs) => if cs.length = gen ∧ AVal.pures cs then some (e.set t (.fptr (cs.drop off)), σ.set o .dead) else none
   | _ => none
  | .map o =>
   match σ[o]? with
   | some (.map ks vs) => if AVal.pures ks ∧ AVal.pures vs then some (e.set t (.fmap ks vs), σ.set o .dead) else none
   | _ => none
  | v => if v.pure then some (e, σ) else none
 | .dfreeze t =>
  match deepA snapDepth σ (e.getD t .und) with
  | some (v, σ') => some (e.set t v, σ')
  | none => none
 | .inner t =>
  match e.getD t .und with
  | .ref o gen _ _ _ | .ptr o gen _ =>
   match σ[o]? with
   | some (.cells nl cs) =>
    if cs.length = gen then
     match deepL (deepA snapDepth) σ cs with
     | some (cs', σ1) =>
      match σ1[o]? with
      | some (.cells _ _) => some (e, σ1.set o (.cells nl cs'))
      | _ => none
     | none => none
    else none
   | _ => none
  | _ => none
 | .nilref t k =>
  match e.getD t .und with
  | .nils => some (e.set t (.ref σ.length 0 0 0 k), σ ++ [.cells true []])
  | _ => none
 | .nilagg t off k => (nilaggV off k (e.getD t .und) σ.length).map fun v => (e.set t v, σ ++ [.cells true []])

def wpGOps (cw : CallW) (lv : List Nat) : List GOp → Env → Sto → (Env → Sto → Prop) → Prop
 | [], e, σ, K => K e σ
 | .op o :: os, e, σ, K => wpOpsA cw lv [o] e σ fun e' σ' => wpGOps cw lv os e' σ' K
 | .gh g :: os, e, σ, K =>
  match ghostA g e σ with
  | some (e', σ') => wpGOps cw lv os e' σ' K
  | none => False

def rangeEnd (o : Nat) (e : Env) (σ : Sto) (Q : Post3) : Prop :=
 match σ[o]? with
 | some (.loop _ _ _ .ready) => Q .normal e (σ.set o .dead)
 | some (.loop _ _ _ (.done x)) => Q x e (σ.set o .dead)
 | _ => False

def wpCode (cw : CallW) (n : Nat) : List Nat → ACode → Env → Sto → Post3 → Prop
 | _, .skip, e, σ, Q => Q .normal e σ
 | lv, .region _ ops, e, σ, Q => wpOpsA cw lv ops e σ (Q .normal)
 | lv, .regionG xs, e, σ, Q => wpGOps cw lv xs e σ (Q .normal)
 | lv, .regionD s ops, e, σ, Q => wpOpsA cw lv ops e σ fun e' σ' => sepA s e' = true ∧ Q .normal e' σ'
 | lv, .regionA c m ops, e, σ, Q => wpOpsA cw lv ops e σ fun e' σ' => wpOpsA cw lv (altOps c m ops) e σ (fun e2 σ2 => e2 = e' ∧ σ2 = σ') ∧ Q .normal e' σ'
 | lv, .seq a b, e, σ, Q => wpCode cw n lv a e σ fun x e' σ' => match x with
  | .normal => wpCode cw n lv b e' σ' Q
  | x => Q x e' σ'
 | lv, .cond c a b, e, σ, Q =>
  match ev e c with
  | .bool t => if t then wpCode cw n lv a e σ Q else wpCode cw n lv b e σ Q
  | _ => False
 | lv, .block id b, e, σ, Q => wpCode cw n lv b e σ fun x e' σ' => match x with
  | .exit i => if i = id then Q .normal e' σ' else Q (.exit i) e' σ'
  | x => Q x e' σ'
 | lv, .loop b, e, σ, Q => loopA (wpCode cw n lv b) n e σ Q
 | lv, .scope b, e, σ, Q => wpCode cw n lv b e σ Q
 | _, .exit id, e, σ, Q => Q (.exit id) e σ
 | _, .ret, e, σ, Q => Q .ret e σ
 | lv, .trunc b, e, σ, Q => wpCode cw n lv b e σ fun x e' σ' => match x with
  | .ret => Q .ret e' σ'
  | x => (σ'.take σ.length).all (AObj.under σ.length) = true ∧ Q x (sanitize σ.length e') (σ'.take σ.length)
 | _, .ghost g, e, σ, Q =>
  match ghostA g e σ with
  | some (e', σ') => Q .normal e' σ'
  | none => False
 | lv, .rangeF x ps body, e, σ, Q =>
  match ev e x with
  | .clo (.func g) first captured => cw false g (first ++ [.yld σ.length] ++ captured) lv (σ ++ [.loop ps body e .ready]) fun _ σ' => rangeEnd σ.length e σ' Q
  | _ => False

def resA (e : Env) (σ : Sto) : ARes → Option AVal
 | .tmp t => some (e.getD t .und)
 | .cell t agg n =>
  match e.getD t .und with
  | .ptr o gen off =>
   match σ[o]? with
   | some (.cells _ cs) => if cs.length = gen then loadA agg n (cs.drop off) else none
   | _ => none
  | _ => none

def resultsA (rs : List ARes) (e : Env) (σ : Sto) : Option AVal :=
 match rs.mapM (resA e σ) with
 | some [v] => some v
 | some vs => some (.tup vs)
 | none => none

def initEnv (n : Nat) (args : List AVal) : Env := args ++ List.replicate (n - args.length) .und

def retA (af : AFunc) (x : AExit) (e : Env) (σ : Sto) (Q : Post) : Prop :=
 match x with
 | .exit _ => False
 | _ =>
  match resultsA af.results e σ with
  | some v => Q v σ
  | none => False

def cutQ (c : Bool) (n : Nat) (Q : Post) : Post := fun v σ => if c = true then v.under n = true ∧ (σ.take n).all (AObj.under n) = true ∧ Q v (σ.take n) else Q v σ

def putAll (e : Env) : List Nat → List AVal → Env
 | p :: ps, v :: vs => putAll (e.set p v) ps vs
 | _, _ => e

def roundEnd (o : Nat) (x : AExit) (σ : Sto) (Q : Post) : Prop :=
 match σ[o]? with
 | some (.loop ps body e .busy) => Q (.bool (x == .normal)) (σ.set o (.loop ps body e (if x = .normal then .ready else .done x)))
 | _ => False

def yieldW (cw : CallW) (n : Nat) (args : List AVal) (lv : List Nat) (σ : Sto) (Q : Post) : Prop :=
 match args with
 | .yld o :: ys =>
  match σ[o]? with
  | some (.loop ps body e .ready) => ys.length = ps.length ∧ wpCode cw n lv body (putAll e ps ys) (σ.set o (.loop ps body e .busy)) fun x _ σ' => roundEnd o x σ' Q
  | _ => False
 | _ => False

def callW (T : FuncId → Option AFunc) : Nat → CallW
 | 0, _, _, _, _, _, _ => False
 | n + 1, true, f, args, _, σ, Q =>
  match args.mapM (snapA σ snapDepth), T f with
  | some as, some af => wpCode (callW T n) n [] af.code (initEnv af.ntmps as) [] fun x e σ' => retA af x e σ' fun v σ'' =>
    match snapA σ'' snapDepth v with
    | some v' => (AVal.pures args = true ∨ v'.flat = true) ∧ Q v' σ
    | none => False
  | _, _ => False
 | n + 1, false, f, args, lv, σ, Q =>
  match T f with
  | some af => wpCode (callW T n) n lv af.code (initEnv af.ntmps args) σ fun x e σ' => retA af x e σ' (cutQ af.cut σ.length Q)
  | none => f = yieldF ∧ yieldW (callW T n) n args lv σ Q

end Go.Abs
/- The abstract machine goes one way. -/
namespace Go.Abs
open Go

def Det (cw : CallW) : Prop := ∀ (p : Bool) (f : FuncId) (args : List AVal) (lv : List Nat) (σ : Sto) (Q : Post), cw p f args lv σ Q → ∃ v σ', Q v σ' ∧ ∀ {Q' : Post}, Q' v σ' → cw p f args lv σ Q'

theorem wpOper_det {cw : CallW} (hD : Det cw) {lv : List Nat} {o : AOper} {e : Env} {σ : Sto} {K : Env → Sto → Prop} (h : wpOper cw lv o e σ K) : ∃ e' σ', K e' σ' ∧ ∀ {K' : Env → Sto → Prop}, K' e' σ' → wpOper cw lv o e σ K' := by
 unfold wpOper at h ⊢
 split at h
 ·obtain ⟨v, σ', h1, h2⟩ := hD _ _ _ _ _ _ h
  exact ⟨_, _, h1, fun hk => h2 hk⟩
 ·split at h
  ·obtain ⟨v, σ', h1, h2⟩ := hD _ _ _ _ _ _ h
   exact ⟨_, _, h1, fun hk => h2 hk⟩
  ·obtain ⟨hp, h⟩ := h
   obtain ⟨v, σ', h1, h2⟩ := hD _ _ _ _ _ _ h
   exact ⟨_, _, h1, fun hk => ⟨hp, h2 hk⟩⟩
  ·exact h.elim
 ·split at h
  ·exact ⟨_, _, h, fun hk => hk⟩
  ·exact h.elim

theorem wpOps_det {cw : CallW} (hD : Det cw) {lv : List Nat} : ∀ (os : List AOper) {e : Env} {σ : Sto} {K : Env → Sto → Prop}, wpOpsA cw lv os e σ K → ∃ e' σ', K e' σ' ∧ ∀ {K' : Env → Sto → Prop}, K' e' σ' → wpOpsA cw lv os e σ K'
 | [], e, σ, K, h => ⟨e, σ, h, fun hk => hk⟩
 | o :: os, e, σ, K, h => by
  simp only [wpOpsA] at h ⊢
  split at h
  ·obtain ⟨e1, σ1, h1, h2⟩ := wpOper_det hD h
   obtain ⟨e2, σ2, h3, h4⟩ := wpOps_det hD os h1
   exact ⟨e2, σ2, h3, fun hk => h2 (h4 hk)⟩
  ·exact wpOps_det hD os h
  ·exact h.elim

theorem wpGOps_det {cw : CallW} (hD : Det cw) {lv : List Nat} : ∀ (os : List GOp) {e : Env} {σ : Sto} {K : Env → Sto → Prop}, wpGOps cw lv os e σ K → ∃ e' σ', K e' σ' ∧ ∀ {K' : Env → Sto → Prop}, K' e' σ' → wpGOps cw lv os e σ K'
 | [], e, σ, K, h => ⟨e, σ, h, fun hk => hk⟩
 | .op o :: os, e, σ, K, h => by
  simp only [wpGOps] at h ⊢
  obtain ⟨e1, σ1, h1, h2⟩ := wpOps_det hD _ h
  obtain ⟨e2, σ2, h3, h4⟩ := wpGOps_det hD os h1
  exact ⟨e2, σ2, h3, fun hk => h2 (h4 hk)⟩
 | .gh g :: os, e, σ, K, h => by
  simp only [wpGOps] at h ⊢
  split at h
  ·exact wpGOps_det hD os h
  ·exact h.elim

theorem loop_det {body : Env → Sto → Post3 → Prop} (hb : ∀ (e : Env) (σ : Sto) (Q : Post3), body e σ Q → ∃ x e' σ', Q x e' σ' ∧ ∀ {Q' : Post3}, Q' x e' σ' → body e σ Q') : ∀ (n : Nat) {e : Env} {σ : Sto} {Q : Post3},
  loopA body n e σ Q → ∃ x e' σ', Q x e' σ' ∧ ∀ {Q' : Post3}, Q' x e' σ' → loopA body n e σ Q'
 | 0, e, σ, Q, h => h.elim
 | n + 1, e, σ, Q, h => by
  simp only [loopA] at h ⊢
  obtain ⟨x, e1, σ1, h1, h2⟩ := hb _ _ _ h
  cases x with
  | normal =>
   obtain ⟨x, e2, σ2, h3, h4⟩ := loop_det hb n h1
   exact ⟨x, e2, σ2, h3, fun hk => h2 (h4 hk)⟩
  | exit i => exact ⟨_, _, _, h1, fun hk => h2 hk⟩
  | ret => exact ⟨_, _, _, h1, fun hk => h2 hk⟩

theorem code_det {cw : CallW} (hD : Det cw) {n : Nat} : ∀ (c : ACode) {lv : List Nat} {e : Env} {σ : Sto} {Q : Post3}, wpCode cw n lv c e σ Q → ∃ x e' σ', Q x e' σ' ∧ ∀ {Q' : Post3}, Q' x e' σ' → wpCode cw n lv c e σ Q' := by
 intro c
 induction c with
 | skip => intro lv e σ Q h; exact ⟨_, _, _, h, fun hk => hk⟩
 | region d ops =>
  intro lv e σ Q h
  simp only [wpCode] at h ⊢
  obtain ⟨e', σ', h1, h2⟩ := wpOps_det hD ops h
  exact ⟨_, _, _, h1, fun hk => h2 hk⟩
 | regionG ops =>
  intro lv e σ Q h
  simp only [wpCode] at h ⊢
  obtain ⟨e', σ', h1, h2⟩ := wpGOps_det hD ops h
  exact ⟨_, _, _, h1, fun hk => h2 hk⟩
 | regionD s ops =>
  intro lv e σ Q h
  simp only [wpCode] at h ⊢
  obtain ⟨e', σ', h1, h2⟩ := wpOps_det hD ops h
  exact ⟨_, _, _, h1.2, fun hk => h2 ⟨h1.1, hk⟩⟩
 | regionA c m ops =>
  intro lv e σ Q h
  simp only [wpCode] at h ⊢
  obtain ⟨e', σ', h1, h2⟩ := wpOps_det hD ops h
  exact ⟨_, _, _, h1.2, fun hk => h2 ⟨h1.1, hk⟩⟩
 | seq a b iha ihb =>
  intro lv e σ Q h
  simp only [wpCode] at h ⊢
  obtain ⟨x, e1, σ1, h1, h2⟩ := iha h
  cases x with
  | normal =>
   obtain ⟨x, e2, σ2, h3, h4⟩ := ihb h1
   exact ⟨x, e2, σ2, h3, fun hk => h2 (h4 hk)⟩
  | exit i => exact ⟨_, _, _, h1, fun hk => h2 hk⟩
  | ret => exact ⟨_, _, _, h1, fun hk => h2 hk⟩
 | cond c a b iha ihb =>
  intro lv e σ Q h
  simp only [wpCode] at h ⊢
  split at h
  ·rename_i t ht
   cases t
   ·simp only [Bool.false_eq_true, if_false] at h ⊢; exact ihb h
   ·simp only [if_true] at h ⊢; exact iha h
  ·exact h.elim
 | block id b ih =>
  intro lv e σ Q h
  simp only [wpCode] at h ⊢
  obtain ⟨x, e1, σ1, h1, h2⟩ := ih h
  cases x with
  | normal => exact ⟨_, _, _, h1, fun hk => h2 hk⟩
  | exit i =>
   simp only at h1
   split at h1
   ·rename_i hi; exact ⟨_, _, _, h1, fun hk => h2 (by simp only [if_pos hi]; exact hk)⟩
   ·rename_i hi; exact ⟨_, _, _, h1, fun hk => h2 (by simp only [if_neg hi]; exact hk)⟩
  | ret => exact ⟨_, _, _, h1, fun hk => h2 hk⟩
 | loop b ih =>
  intro lv e σ Q h
  simp only [wpCode] at h ⊢
  exact loop_det (fun _ _ _ h => ih h) n h
 | exit id => intro lv e σ Q h; exact ⟨_, _, _, h, fun hk => hk⟩
 | ret => intro lv e σ Q h; exact ⟨_, _, _, h, fun hk => hk⟩
 | trunc b ih =>
  intro lv e σ Q h
  simp only [wpCode] at h ⊢
  obtain ⟨x, e1, σ1, h1, h2⟩ := ih h
  cases x with
  | normal => exact ⟨_, _, _, h1.2, fun hk => h2 ⟨h1.1, hk⟩⟩
  | exit i => exact ⟨_, _, _, h1.2, fun hk => h2 ⟨h1.1, hk⟩⟩
  | ret => exact ⟨_, _, _, h1, fun hk => h2 hk⟩
 | scope b ih =>
  intro lv e σ Q h
  simp only [wpCode] at h ⊢
  exact ih h
 | ghost g =>
  intro lv e σ Q h
  simp only [wpCode] at h ⊢
  split at h
  ·exact ⟨_, _, _, h, fun hk => hk⟩
  ·exact h.elim
 | rangeF x ps b ih =>
  intro lv e σ Q h
  simp only [wpCode] at h ⊢
  split at h
  ·obtain ⟨v, σ', h1, h2⟩ := hD _ _ _ _ _ _ h
   unfold rangeEnd at h1
   split at h1
   ·rename_i hσ; exact ⟨_, _, _, h1, fun hk => h2 (by unfold rangeEnd; rw [hσ]; exact hk)⟩
   ·rename_i hσ; exact ⟨_, _, _, h1, fun hk => h2 (by unfold rangeEnd; rw [hσ]; exact hk)⟩
   ·exact h1.elim
  ·exact h.elim

theorem yield_det {cw : CallW} (hD : Det cw) {n : Nat} {args : List AVal} {lv : List Nat} {σ : Sto} {Q : Post} (h : yieldW cw n args lv σ Q) : ∃ v σ', Q v σ' ∧ ∀ {Q' : Post}, Q' v σ' → yieldW cw n args lv σ Q' := by
 unfold yieldW at h ⊢
 split at h
 case h_2 => exact h.elim
 split at h
 case h_2 => exact h.elim
 obtain ⟨hl, h⟩ := h
 obtain ⟨x, e, σ', h1, h2⟩ := code_det hD _ h
 unfold roundEnd at h1
 split at h1
 case h_2 => exact h1.elim
 rename_i hσ
 exact ⟨_, _, h1, fun hk => ⟨hl, h2 (by unfold roundEnd; rw [hσ]; exact hk)⟩⟩

theorem ret_det {af : AFunc} {x : AExit} {e : Env} {σ : Sto} {Q : Post} (h : retA af x e σ Q) : ∃ v, Q v σ ∧ ∀ {Q' : Post}, Q' v σ → retA af x e σ Q' := by
 unfold retA at h ⊢
 cases x <;> simp only at h ⊢
 ·split at h
  ·exact ⟨_, h, fun hk => hk⟩
  ·exact h.elim
 ·split at h
  ·exact ⟨_, h, fun hk => hk⟩
  ·exact h.elim

theorem callW_det (T : FuncId → Option AFunc) : ∀ n, Det (callW T n)
 | 0 => fun _ _ _ _ _ _ h => by simp [callW] at h
 | n + 1 => by
  intro p f args lv σ Q h
  cases p with
  | true =>
   simp only [callW] at h ⊢
   split at h
   ·obtain ⟨x, e, σ', h1, h2⟩ := code_det (callW_det T n) _ h
    obtain ⟨v, h3, h4⟩ := ret_det h1
    split at h3
    ·rename_i v' hv'
     exact ⟨v', σ, h3.2, fun {Q'} hk => h2 (h4 (by simp only [hv']; exact ⟨h3.1, hk⟩))⟩
    ·exact h3.elim
   ·exact h.elim
  | false =>
   simp only [callW] at h ⊢
   split at h
   ·obtain ⟨x, e, σ', h1, h2⟩ := code_det (callW_det T n) _ h
    obtain ⟨v, h3, h4⟩ := ret_det h1
    unfold cutQ at h3
    split at h3
    ·rename_i hc; exact ⟨v, _, h3.2.2, fun hk => h2 (h4 (by unfold cutQ; rw [if_pos hc]; exact ⟨h3.1, h3.2.1, hk⟩))⟩
    ·rename_i hc; exact ⟨v, σ', h3, fun hk => h2 (h4 (by unfold cutQ; rw [if_neg hc]; exact hk))⟩
   ·obtain ⟨hf, h⟩ := h
    obtain ⟨v, σ', h1, h2⟩ := yield_det (callW_det T n) h
    exact ⟨v, σ', h1, fun hk => ⟨hf, h2 hk⟩⟩

end Go.Abs
/- More fuel tells the same. -/
namespace Go.Abs
open Go

def Sub (cw cw' : CallW) : Prop := ∀ (p : Bool) (f : FuncId) (args : List AVal) (lv : List Nat) (σ : Sto) (Q Q' : Post), (∀ v σ', Q v σ' → Q' v σ') → cw p f args lv σ Q → cw' p f args lv σ Q'

theorem oper_mono {cw cw' : CallW} (hS : Sub cw cw') {lv : List Nat} {o : AOper} {e : Env} {σ : Sto} {K K' : Env → Sto → Prop} (hK : ∀ e σ, K e σ → K' e σ) (h : wpOper cw lv o e σ K) : wpOper cw' lv o e σ K' := by
 unfold wpOper at h ⊢
 split at h
 ·exact hS _ _ _ _ _ _ _ (fun v σ' hq => hK _ _ hq) h
 ·split at h
  ·exact hS _ _ _ _ _ _ _ (fun v σ' hq => hK _ _ hq) h
  ·exact ⟨h.1, hS _ _ _ _ _ _ _ (fun v σ' hq => hK _ _ hq) h.2⟩
  ·exact h.elim
 ·split at h
  ·exact hK _ _ h
  ·exact h.elim

theorem ops_mono {cw cw' : CallW} (hS : Sub cw cw') {lv : List Nat} : ∀ (os : List AOper) {e : Env} {σ : Sto} {K K' : Env → Sto → Prop}, (∀ e σ, K e σ → K' e σ) → wpOpsA cw lv os e σ K → wpOpsA cw' lv os e σ K'
 | [], _, _, _, _, hK, h => hK _ _ h
 | o :: os, e, σ, K, K', hK, h => by
  simp only [wpOpsA] at h ⊢
  split at h
  ·exact oper_mono hS (fun e σ h => ops_mono hS os hK h) h
  ·exact ops_mono hS os hK h
  ·exact h.elim

theorem gops_mono {cw cw' : CallW} (hS : Sub cw cw') {lv : List Nat} : ∀ (os : List GOp) {e : Env} {σ : Sto} {K K' : Env → Sto → Prop}, (∀ e σ, K e σ → K' e σ) → wpGOps cw lv os e σ K → wpGOps cw' lv os e σ K'
 | [], _, _, _, _, hK, h => hK _ _ h
 | .op o :: os, e, σ, K, K', hK, h => by
  simp only [wpGOps] at h ⊢
  exact ops_mono hS _ (fun e σ h => gops_mono hS os hK h) h
 | .gh g :: os, e, σ, K, K', hK, h => by
  simp only [wpGOps] at h ⊢
  split at h
  ·exact gops_mono hS os hK h
  ·exact h.elim

theorem loop_mono {b b' : Env → Sto → Post3 → Prop} (hb : ∀ (e : Env) (σ : Sto) (Q Q' : Post3), (∀ x e σ, Q x e σ → Q' x e σ) → b e σ Q → b' e σ Q') : ∀ {n m : Nat}, n ≤ m → ∀ {e : Env} {σ : Sto} {Q Q' : Post3}, (∀ x e σ, Q x e σ → Q' x e σ) → loopA b n e σ Q → loopA b' m e σ Q'
 | 0, _, _, _, _, _, _, _, h => h.elim
 | n + 1, 0, hnm, _, _, _, _, _, _ => by omega
 | n + 1, m + 1, hnm, e, σ, Q, Q', hQ, h => by
  simp only [loopA] at h ⊢
  refine hb _ _ _ _ (fun x e' σ' h => ?_) h
  cases x with
  | normal => exact loop_mono hb (Nat.le_of_succ_le_succ hnm) hQ h
  | exit i => exact hQ _ _ _ h
  | ret => exact hQ _ _ _ h

theorem rangeEnd_mono {o : Nat} {e : Env} {σ : Sto} {Q Q' : Post3} (hQ : ∀ x e σ, Q x e σ → Q' x e σ) (h : rangeEnd o e σ Q) : rangeEnd o e σ Q' := by
 unfold rangeEnd at h ⊢
 split at h
 ·exact hQ _ _ _ h
 ·exact hQ _ _ _ h
 ·exact h.elim

theorem code_mono {cw cw' : CallW} (hS : Sub cw cw') {n m : Nat} (hnm : n ≤ m) : ∀ (c : ACode) {lv : List Nat} {e : Env} {σ : Sto} {Q Q' : Post3}, (∀ x e σ, Q x e σ → Q' x e σ) → wpCode cw n lv c e σ Q → wpCode cw' m lv c e σ Q' := by
 intro c
 induction c with
 | skip => intro lv e σ Q Q' hQ h; exact hQ _ _ _ h
 | region d ops => intro lv e σ Q Q' hQ h; simp only [wpCode] at h ⊢; exact ops_mono hS ops (fun e σ h => hQ _ _ _ h) h
 | regionG ops => intro lv e σ Q Q' hQ h; simp only [wpCode] at h ⊢; exact gops_mono hS ops (fun e σ h => hQ _ _ _ h) h
 | regionA c m ops => intro lv e σ Q Q' hQ h; simp only [wpCode] at h ⊢; exact ops_mono hS ops (fun e σ h => ⟨ops_mono hS _ (fun _ _ h => h) h.1, hQ _ _ _ h.2⟩) h
 | regionD s ops => intro lv e σ Q Q' hQ h; simp only [wpCode] at h ⊢; exact ops_mono hS ops (fun e σ h => ⟨h.1, hQ _ _ _ h.2⟩) h
 | seq a b iha ihb =>
  intro lv e σ Q Q' hQ h
  simp only [wpCode] at h ⊢
  refine iha (fun x e' σ' h => ?_) h
  cases x with
  | normal => exact ihb hQ h
  | exit i => exact hQ _ _ _ h
  | ret => exact hQ _ _ _ h
 | cond c a b iha ihb =>
  intro lv e σ Q Q' hQ h
  simp only [wpCode] at h ⊢
  split at h
  ·rename_i t _
   cases t
   ·simp only [Bool.false_eq_true, if_false] at h ⊢; exact ihb hQ h
   ·simp only [if_true] at h ⊢; exact iha hQ h
  ·exact h.elim
 | block id b ih =>
  intro lv e σ Q Q' hQ h
  simp only [wpCode] at h ⊢
  refine ih (fun x e' σ' h => ?_) h
  cases x with
  | normal => exact hQ _ _ _ h
  | exit i =>
   simp only at h ⊢
   split at h
   ·rename_i hi; rw [if_pos hi]; exact hQ _ _ _ h
   ·rename_i hi; rw [if_neg hi]; exact hQ _ _ _ h
  | ret => exact hQ _ _ _ h
 | loop b ih => intro lv e σ Q Q' hQ h; simp only [wpCode] at h ⊢; exact loop_mono (b := wpCode cw n lv b) (b' := wpCode cw' m lv b) (fun _ _ _ _ hq h => ih hq h) hnm hQ h
 | exit id => intro lv e σ Q Q' hQ h; exact hQ _ _ _ h
 | ret => intro lv e σ Q Q' hQ h; exact hQ _ _ _ h
 | trunc b ih =>
  intro lv e σ Q Q' hQ h
  simp only [wpCode] at h ⊢
  refine ih (fun x e' σ' h => ?_) h
  cases x with
  | normal => exact ⟨h.1, hQ _ _ _ h.2⟩
  | exit i => exact ⟨h.1, hQ _ _ _ h.2⟩
  | ret => exact hQ _ _ _ h
 | scope b ih => intro lv e σ Q Q' hQ h; simp only [wpCode] at h ⊢; exact ih hQ h
 | ghost g =>
  intro lv e σ Q Q' hQ h
  simp only [wpCode] at h ⊢
  split at h
  ·exact hQ _ _ _ h
  ·exact h.elim
 | rangeF x ps b ih =>
  intro lv e σ Q Q' hQ h
  simp only [wpCode] at h ⊢
  split at h
  ·exact hS _ _ _ _ _ _ _ (fun v σ' h => rangeEnd_mono hQ h) h
  ·exact h.elim

theorem roundEnd_mono {o : Nat} {x : AExit} {σ : Sto} {Q Q' : Post} (hQ : ∀ v σ, Q v σ → Q' v σ) (h : roundEnd o x σ Q) : roundEnd o x σ Q' := by
 unfold roundEnd at h ⊢
 split at h
 ·exact hQ _ _ h
 ·exact h.elim
theorem yield_mono {cw cw' : CallW} (hS : Sub cw cw') {n m : Nat} (hnm : n ≤ m) {args : List AVal} {lv : List Nat} {σ : Sto} {Q Q' : Post} (hQ : ∀ v σ, Q v σ → Q' v σ) (h : yieldW cw n args lv σ Q) : yieldW cw' m args lv σ Q' := by
 unfold yieldW at h ⊢
 split at h
 case h_2 => exact h.elim
 split at h
 case h_2 => exact h.elim
 exact ⟨h.1, code_mono hS hnm _ (fun x _ σ' h => roundEnd_mono hQ h) h.2⟩

theorem ret_mono {af : AFunc} {x : AExit} {e : Env} {σ : Sto} {Q Q' : Post} (hQ : ∀ v σ, Q v σ → Q' v σ) (h : retA af x e σ Q) : retA af x e σ Q' := by
 unfold retA at h ⊢
 cases x <;> simp only at h ⊢
 ·split at h
  ·exact hQ _ _ h
  ·exact h.elim
 ·split at h
  ·exact hQ _ _ h
  ·exact h.elim

theorem cutQ_mono {c : Bool} {n : Nat} {Q Q' : Post} (hQ : ∀ v σ, Q v σ → Q' v σ) (v : AVal) (σ : Sto) (h : cutQ c n Q v σ) : cutQ c n Q' v σ := by
 unfold cutQ at h ⊢
 split
 ·rename_i hc; rw [if_pos hc] at h; exact ⟨h.1, h.2.1, hQ _ _ h.2.2⟩
 ·rename_i hc; rw [if_neg hc] at h; exact hQ _ _ h

theorem callW_sub (T : FuncId → Option AFunc) : ∀ {n m : Nat}, n ≤ m → Sub (callW T n) (callW T m)
 | 0, _, _ => fun _ _ _ _ _ _ _ _ h => by simp [callW] at h
 | n + 1, 0, h => by omega
 | n + 1, m + 1, hnm => by
  have ih := callW_sub T (Nat.le_of_succ_le_succ hnm)
  intro p f args lv σ Q Q' hQ h
  cases p with
  | true =>
   simp only [callW] at h ⊢
   split at h
   ·refine code_mono ih (Nat.le_of_succ_le_succ hnm) _ (fun x e σ' h => ret_mono (fun v σ'' h => ?_) h) h
    split at h
    ·exact ⟨h.1, hQ _ _ h.2⟩
    ·exact h.elim
   ·exact h.elim
  | false =>
   simp only [callW] at h ⊢
   split at h
   ·exact code_mono ih (Nat.le_of_succ_le_succ hnm) _ (fun x e σ' h => ret_mono (cutQ_mono hQ) h) h
   ·exact ⟨h.1, yield_mono ih (Nat.le_of_succ_le_succ hnm) hQ h.2⟩

end Go.Abs
/- A stack machine over the abstract machine: no fuel, one equation for each step. -/
namespace Go.Abs
open Go

def Conj (cw : CallW) : Prop := ∀ (p : Bool) (f : FuncId) (args : List AVal) (lv : List Nat) (σ : Sto) (Q Q' : Post), cw p f args lv σ Q → cw p f args lv σ Q' → cw p f args lv σ fun v σ => Q v σ ∧ Q' v σ

theorem oper_conj {cw : CallW} (hC : Conj cw) {lv : List Nat} {o : AOper} {e : Env} {σ : Sto} {K K' : Env → Sto → Prop} (h : wpOper cw lv o e σ K) (h' : wpOper cw lv o e σ K') : wpOper cw lv o e σ fun e σ => K e σ ∧ K' e σ := by
 revert h h'
 unfold wpOper
 split
 ·exact fun h h' => hC _ _ _ _ _ _ _ h h'
 ·split
  ·exact fun h h' => hC _ _ _ _ _ _ _ h h'
  ·exact fun h h' => ⟨h.1, hC _ _ _ _ _ _ _ h.2 h'.2⟩
  ·exact fun h => h.elim
 ·split
  ·exact fun h h' => ⟨h, h'⟩
  ·exact fun h => h.elim

theorem ops_conj {cw : CallW} (hC : Conj cw) (hS : Sub cw cw) {lv : List Nat} : ∀ (os : List AOper) {e : Env} {σ : Sto} {K K' : Env → Sto → Prop}, wpOpsA cw lv os e σ K → wpOpsA cw lv os e σ K' → wpOpsA cw lv os e σ fun e σ => K e σ ∧ K' e σ
 | [], _, _, _, _, h, h' => ⟨h, h'⟩
 | o :: os, e, σ, K, K', h, h' => by
  revert h h'
  simp only [wpOpsA]
  split
  ·exact fun h h' => oper_mono hS (fun e σ h => ops_conj hC hS os h.1 h.2) (oper_conj hC h h')
  ·exact fun h h' => ops_conj hC hS os h h'
  ·exact fun h => h.elim

theorem gops_conj {cw : CallW} (hC : Conj cw) (hS : Sub cw cw) {lv : List Nat} : ∀ (os : List GOp) {e : Env} {σ : Sto} {K K' : Env → Sto → Prop}, wpGOps cw lv os e σ K → wpGOps cw lv os e σ K' → wpGOps cw lv os e σ fun e σ => K e σ ∧ K' e σ
 | [], _, _, _, _, h, h' => ⟨h, h'⟩
 | .op o :: os, e, σ, K, K', h, h' => by
  simp only [wpGOps] at h h' ⊢
  exact ops_mono hS _ (fun e σ h => gops_conj hC hS os h.1 h.2) (ops_conj hC hS _ h h')
 | .gh g :: os, e, σ, K, K', h, h' => by
  revert h h'
  simp only [wpGOps]
  split
  ·exact fun h h' => gops_conj hC hS os h h'
  ·exact fun h => h.elim

theorem loop_conj {b : Env → Sto → Post3 → Prop} (hm : ∀ (e : Env) (σ : Sto) (Q Q' : Post3), (∀ x e σ, Q x e σ → Q' x e σ) → b e σ Q → b e σ Q') (hb : ∀ (e : Env) (σ : Sto) (Q Q' : Post3), b e σ Q → b e σ Q' → b e σ fun x e σ => Q x e σ ∧ Q' x e σ) :
  ∀ {n : Nat} {e : Env} {σ : Sto} {Q Q' : Post3}, loopA b n e σ Q → loopA b n e σ Q' → loopA b n e σ fun x e σ => Q x e σ ∧ Q' x e σ
 | 0, _, _, _, _, h, _ => h.elim
 | n + 1, e, σ, Q, Q', h, h' => by
  simp only [loopA] at h h' ⊢
  refine hm _ _ _ _ (fun x e' σ' h => ?_) (hb _ _ _ _ h h')
  cases x with
  | normal => exact loop_conj hm hb h.1 h.2
  | exit i => exact h
  | ret => exact h

theorem rangeEnd_conj {o : Nat} {e : Env} {σ : Sto} {Q Q' : Post3} (h : rangeEnd o e σ Q) (h' : rangeEnd o e σ Q') : rangeEnd o e σ fun x e σ => Q x e σ ∧ Q' x e σ := by
 revert h h'
 unfold rangeEnd
 split
 ·exact fun h h' => ⟨h, h'⟩
 ·exact fun h h' => ⟨h, h'⟩
 ·exact fun h => h.elim
theorem roundEnd_conj {o : Nat} {x : AExit} {σ : Sto} {Q Q' : Post} (h : roundEnd o x σ Q) (h' : roundEnd o x σ Q') : roundEnd o x σ fun v σ => Q v σ ∧ Q' v σ := by
 revert h h'
 unfold roundEnd
 split
 ·exact fun h h' => ⟨h, h'⟩
 ·exact fun h => h.elim

theorem code_conj {cw : CallW} (hC : Conj cw) (hS : Sub cw cw) {n : Nat} : ∀ (c : ACode) {lv : List Nat} {e : Env} {σ : Sto} {Q Q' : Post3}, wpCode cw n lv c e σ Q → wpCode cw n lv c e σ Q' → wpCode cw n lv c e σ fun x e σ => Q x e σ ∧ Q' x e σ := by
 intro c
 induction c with
 | skip => intro lv e σ Q Q' h h'; exact ⟨h, h'⟩
 | region d ops => intro lv e σ Q Q' h h'; simp only [wpCode] at h h' ⊢; exact ops_conj hC hS ops h h'
 | regionG ops => intro lv e σ Q Q' h h'; simp only [wpCode] at h h' ⊢; exact gops_conj hC hS ops h h'
 | regionA c m ops => intro lv e σ Q Q' h h'; simp only [wpCode] at h h' ⊢; exact ops_mono hS ops (fun e σ h => ⟨h.1.1, h.1.2, h.2.2⟩) (ops_conj hC hS ops h h')
 | regionD s ops => intro lv e σ Q Q' h h'; simp only [wpCode] at h h' ⊢; exact ops_mono hS ops (fun e σ h => ⟨h.1.1, h.1.2, h.2.2⟩) (ops_conj hC hS ops h h')
 | seq a b iha ihb =>
  intro lv e σ Q Q' h h'
  simp only [wpCode] at h h' ⊢
  refine code_mono hS (Nat.le_refl n) a (fun x e' σ' h => ?_) (iha h h')
  cases x with
  | normal => exact ihb h.1 h.2
  | exit i => exact h
  | ret => exact h
 | cond c a b iha ihb =>
  intro lv e σ Q Q' h h'
  simp only [wpCode] at h h' ⊢
  split at h
  ·rename_i t ht
   rw [ht] at h'
   cases t
   ·simp only [Bool.false_eq_true, if_false] at h h' ⊢; exact ihb h h'
   ·simp only [if_true] at h h' ⊢; exact iha h h'
  ·exact h.elim
 | block id b ih =>
  intro lv e σ Q Q' h h'
  simp only [wpCode] at h h' ⊢
  refine code_mono hS (Nat.le_refl n) b (fun x e' σ' h => ?_) (ih h h')
  cases x with
  | normal => exact h
  | exit i =>
   simp only at h ⊢
   split
   ·rename_i hi; rw [if_pos hi, if_pos hi] at h; exact h
   ·rename_i hi; rw [if_neg hi, if_neg hi] at h; exact h
  | ret => exact h
 | loop b ih =>
  intro lv e σ Q Q' h h'
  simp only [wpCode] at h h' ⊢
  exact loop_conj (b := wpCode cw n lv b) (fun _ _ _ _ hq h => code_mono hS (Nat.le_refl n) b hq h) (fun _ _ _ _ h h' => ih h h') h h'
 | exit id => intro lv e σ Q Q' h h'; exact ⟨h, h'⟩
 | ret => intro lv e σ Q Q' h h'; exact ⟨h, h'⟩
 | trunc b ih =>
  intro lv e σ Q Q' h h'
  simp only [wpCode] at h h' ⊢
  refine code_mono hS (Nat.le_refl n) b (fun x e' σ' h => ?_) (ih h h')
  cases x with
  | normal => exact ⟨h.1.1, h.1.2, h.2.2⟩
  | exit i => exact ⟨h.1.1, h.1.2, h.2.2⟩
  | ret => exact h
 | scope b ih => intro lv e σ Q Q' h h'; simp only [wpCode] at h h' ⊢; exact ih h h'
 | ghost g =>
  intro lv e σ Q Q' h h'
  simp only [wpCode] at h h' ⊢
  split at h
  ·rename_i hg; rw [hg] at h'; exact ⟨h, h'⟩
  ·exact h.elim
 | rangeF x ps b ih =>
  intro lv e σ Q Q' h h'
  simp only [wpCode] at h h' ⊢
  split at h
  ·rename_i hg; rw [hg] at h'; exact hS _ _ _ _ _ _ _ (fun v σ' h => rangeEnd_conj h.1 h.2) (hC _ _ _ _ _ _ _ h h')
  ·exact h.elim

theorem yield_conj {cw : CallW} (hC : Conj cw) (hS : Sub cw cw) {n : Nat} {args : List AVal} {lv : List Nat} {σ : Sto} {Q Q' : Post} (h : yieldW cw n args lv σ Q) (h' : yieldW cw n args lv σ Q') : yieldW cw n args lv σ fun v σ => Q v σ ∧ Q' v σ := by
 revert h h'
 unfold yieldW
 split
 case h_2 => exact fun h => h.elim
 split
 case h_2 => exact fun h => h.elim
 exact fun h h' => ⟨h.1, code_mono hS (Nat.le_refl n) _ (fun x e σ' h => roundEnd_conj h.1 h.2) (code_conj hC hS _ h.2 h'.2)⟩

theorem ret_conj {af : AFunc} {x : AExit} {e : Env} {σ : Sto} {Q Q' : Post} (h : retA af x e σ Q) (h' : retA af x e σ Q') : retA af x e σ fun v σ => Q v σ ∧ Q' v σ := by
 unfold retA at h h' ⊢
 cases x <;> simp only at h h' ⊢
 ·split at h
  ·rename_i hr; rw [hr] at h'; exact ⟨h, h'⟩
  ·exact h.elim
 ·split at h
  ·rename_i hr; rw [hr] at h'; exact ⟨h, h'⟩
  ·exact h.elim

theorem cutQ_conj {c : Bool} {n : Nat} {Q Q' : Post} (v : AVal) (σ : Sto) (h : cutQ c n Q v σ ∧ cutQ c n Q' v σ) : cutQ c n (fun v σ => Q v σ ∧ Q' v σ) v σ := by
 obtain ⟨h, h'⟩ := h
 unfold cutQ at h h' ⊢
 split
 ·rename_i hc; rw [if_pos hc] at h h'; exact ⟨h.1, h.2.1, h.2.2, h'.2.2⟩
 ·rename_i hc; rw [if_neg hc] at h h'; exact ⟨h, h'⟩

theorem callW_conj (T : FuncId → Option AFunc) : ∀ n, Conj (callW T n)
 | 0 => fun _ _ _ _ _ _ _ h _ => by simp [callW] at h
 | n + 1 => by
  have ih := callW_conj T n
  have hS := callW_sub T (Nat.le_refl n)
  intro p f args lv σ Q Q' h h'
  cases p with
  | true =>
   simp only [callW] at h h' ⊢
   split at h
   ·rename_i h1 h2
    rw [h1, h2] at h'
    refine code_mono hS (Nat.le_refl n) _ (fun x e σ' h => ret_mono (fun v σ'' h => ?_) (ret_conj h.1 h.2)) (code_conj ih hS _ h h')
    obtain ⟨a, b⟩ := h
    split at a
    ·rename_i hv; rw [hv] at b; exact ⟨a.1, a.2, b.2⟩
    ·exact a.elim
   ·exact h.elim
  | false =>
   simp only [callW] at h h' ⊢
   split at h
   ·rename_i h1
    rw [h1] at h'
    exact code_mono hS (Nat.le_refl n) _ (fun x e σ' h => ret_mono cutQ_conj (ret_conj h.1 h.2)) (code_conj ih hS _ h h')
   ·rename_i h1
    rw [h1] at h'
    exact ⟨h.1, yield_conj ih hS h.2 h'.2⟩

inductive Item where
 | code (c : ACode)
 | ops (os : List AOper)
 | gops (os : List GOp)
 | sep (s : SepC)
 | alt (os : List AOper) (e : Env) (σ : Sto)
 | inBlock (id : Nat)
 | inLoop (b : ACode)
 | inTrunc (m : Nat)

def resume (cw : CallW) (n : Nat) (Q : Post3) : List Item → Post3
 | [], x, e, σ => Q x e σ
 | .code c :: k, .normal, e, σ => wpCode cw n [] c e σ (resume cw n Q k)
 | .ops os :: k, .normal, e, σ => wpOpsA cw [] os e σ (resume cw n Q k .normal)
 | .gops os :: k, .normal, e, σ => wpGOps cw [] os e σ (resume cw n Q k .normal)
 | .sep s :: k, .normal, e, σ => sepA s e = true ∧ resume cw n Q k .normal e σ
 | .alt os e0 σ0 :: k, .normal, e, σ => wpOpsA cw [] os e0 σ0 (fun e2 σ2 => e2 = e ∧ σ2 = σ) ∧ resume cw n Q k .normal e σ
 | .inLoop b :: k, .normal, e, σ => loopA (wpCode cw n [] b) n e σ (resume cw n Q k)
 | .inTrunc m :: k, .normal, e, σ => (σ.take m).all (AObj.under m) = true ∧ resume cw n Q k .normal (sanitize m e) (σ.take m)
 | .inTrunc m :: k, .exit i, e, σ => (σ.take m).all (AObj.under m) = true ∧ resume cw n Q k (.exit i) (sanitize m e) (σ.take m)
 | .inBlock id :: k, .exit i, e, σ => if i = id then resume cw n Q k .normal e σ else resume cw n Q k (.exit i) e σ
 | _ :: k, x, e, σ => resume cw n Q k x e σ

theorem resume_mono {cw cw' : CallW} (hS : Sub cw cw') {n m : Nat} (hnm : n ≤ m) {Q Q' : Post3} (hQ : ∀ x e σ, Q x e σ → Q' x e σ) : ∀ (k : List Item) (x : AExit) (e : Env) (σ : Sto), resume cw n Q k x e σ → resume cw' m Q' k x e σ
 | [], x, e, σ, h => hQ _ _ _ h
 | i :: k, x, e, σ, h => by
  have ih := resume_mono hS hnm hQ k
  cases i <;> cases x <;> simp only [resume] at h ⊢
  all_goals first
   | exact ih _ _ _ h
   | exact ⟨h.1, ih _ _ _ h.2⟩
   | exact code_mono hS hnm _ ih h
   | exact ops_mono hS _ (ih _) h
   | exact gops_mono hS _ (ih _) h
   | exact ⟨ops_mono hS _ (fun _ _ h => h) h.1, ih _ _ _ h.2⟩
   | skip
  case inLoop.normal b => exact loop_mono (b := wpCode cw n [] b) (b' := wpCode cw' m [] b) (fun _ _ _ _ hq h => code_mono hS hnm _ hq h) hnm ih h
  case inBlock.exit =>
   split at h
   ·rename_i hi; rw [if_pos hi]; exact ih _ _ _ h
   ·rename_i hi; rw [if_neg hi]; exact ih _ _ _ h

def Cw (T : FuncId → Option AFunc) : CallW := fun p f args lv σ Q => ∃ n, callW T n p f args lv σ Q

def RunX (T : FuncId → Option AFunc) (Q : Post3) (x : AExit) (k : List Item) (e : Env) (σ : Sto) : Prop := ∃ n, resume (callW T n) n Q k x e σ
abbrev Run (T : FuncId → Option AFunc) (Q : Post3) (k : List Item) (e : Env) (σ : Sto) : Prop := RunX T Q .normal k e σ

section
variable {T : FuncId → Option AFunc} {Q : Post3} {k : List Item} {e : Env} {σ : Sto}

theorem Cw.mono {p : Bool} {f : FuncId} {args : List AVal} {lv : List Nat} {R R' : Post} (h : Cw T p f args lv σ R) (hR : ∀ v σ', R v σ' → R' v σ') : Cw T p f args lv σ R' :=
 let ⟨n, h⟩ := h; ⟨n, callW_sub T (Nat.le_refl n) _ _ _ _ _ _ _ hR h⟩

theorem Cw.det {p : Bool} {f : FuncId} {args : List AVal} {lv : List Nat} {R : Post} (h : Cw T p f args lv σ R) : ∃ v σ', R v σ' ∧ ∀ {R' : Post}, R' v σ' → Cw T p f args lv σ R' :=
 let ⟨n, h⟩ := h
 let ⟨v, σ', h1, h2⟩ := callW_det T n _ _ _ _ _ _ h
 ⟨v, σ', h1, fun hr => ⟨n, h2 hr⟩⟩

theorem Cw.both {p : Bool} {f : FuncId} {args : List AVal} {lv : List Nat} {R R' : Post} (h : Cw T p f args lv σ R) (h' : Cw T p f args lv σ R') : ∃ v σ', R v σ' ∧ R' v σ' := by
 obtain ⟨n, h⟩ := h
 obtain ⟨m, h'⟩ := h'
 have a := callW_sub T (Nat.le_max_left n m) _ _ _ _ _ _ R (fun _ _ h => h) h
 have b := callW_sub T (Nat.le_max_right n m) _ _ _ _ _ _ R' (fun _ _ h => h) h'
 obtain ⟨v, σ', h1, _⟩ := callW_det T _ _ _ _ _ _ _ (callW_conj T _ _ _ _ _ _ _ _ a b)
 exact ⟨v, σ', h1⟩

theorem Cw.iff_of {p : Bool} {f : FuncId} {args : List AVal} {lv : List Nat} {v : AVal} {σ' : Sto} (h : ∀ R : Post, R v σ' → Cw T p f args lv σ R) {R : Post} : Cw T p f args lv σ R ↔ R v σ' := by
 refine ⟨fun hc => ?_, h R⟩
 obtain ⟨u, τ, h1, rfl, rfl⟩ := hc.both (h (fun u τ => u = v ∧ τ = σ') ⟨rfl, rfl⟩)
 exact h1

theorem RunX.mono {Q' : Post3} {x : AExit} (h : RunX T Q x k e σ) (hQ : ∀ x e σ, Q x e σ → Q' x e σ) : RunX T Q' x k e σ :=
 let ⟨n, h⟩ := h; ⟨n, resume_mono (callW_sub T (Nat.le_refl n)) (Nat.le_refl n) hQ _ _ _ _ h⟩

theorem run_nil {x : AExit} : RunX T Q x [] e σ ↔ Q x e σ := ⟨fun ⟨_, h⟩ => h, fun h => ⟨0, h⟩⟩

theorem run_skip : Run T Q (.code .skip :: k) e σ ↔ Run T Q k e σ := Iff.rfl
theorem run_region {d : Bool} {os : List AOper} : Run T Q (.code (.region d os) :: k) e σ ↔ Run T Q (.ops os :: k) e σ := Iff.rfl

theorem run_regionG {os : List GOp} : Run T Q (.code (.regionG os) :: k) e σ ↔ Run T Q (.gops os :: k) e σ := Iff.rfl
theorem run_regionD {s : SepC} {os : List AOper} : Run T Q (.code (.regionD s os) :: k) e σ ↔ Run T Q (.ops os :: .sep s :: k) e σ := by
 refine exists_congr fun n => ?_
 simp only [resume, wpCode]
theorem run_sep {s : SepC} : Run T Q (.sep s :: k) e σ ↔ sepA s e = true ∧ Run T Q k e σ := by
 simp only [RunX, resume]
 exact exists_and_left
theorem run_regionA {c m : Nat} {os : List AOper} : Run T Q (.code (.regionA c m os) :: k) e σ ↔ Run T Q (.ops os :: .alt (altOps c m os) e σ :: k) e σ := by
 refine exists_congr fun n => ?_
 simp only [resume, wpCode]
theorem run_alt {os : List AOper} {e0 : Env} {σ0 : Sto} : Run T Q (.alt os e0 σ0 :: k) e σ ↔ Run T (fun x e2 σ2 => x = .normal ∧ e2 = e ∧ σ2 = σ) [.ops os] e0 σ0 ∧ Run T Q k e σ := by
 constructor
 ·rintro ⟨n, h1, h2⟩
  refine ⟨⟨n, ?_⟩, n, h2⟩
  simp only [resume, true_and]; exact h1
 ·rintro ⟨⟨n, h1⟩, m, h2⟩
  refine ⟨max n m, ?_, resume_mono (callW_sub T (Nat.le_max_right n m)) (Nat.le_max_right n m) (fun _ _ _ h => h) _ _ _ _ h2⟩
  simp only [resume, true_and] at h1
  exact ops_mono (callW_sub T (Nat.le_max_left n m)) _ (fun _ _ h => h) h1
theorem gops_nil : Run T Q (.gops [] :: k) e σ ↔ Run T Q k e σ := Iff.rfl
theorem gops_op {o : AOper} {os : List GOp} : Run T Q (.gops (.op o :: os) :: k) e σ ↔ Run T Q (.ops [o] :: .gops os :: k) e σ := Iff.rfl
theorem gops_gh {g : Ghost} {os : List GOp} : Run T Q (.gops (.gh g :: os) :: k) e σ ↔ Run T Q (.code (.ghost g) :: .gops os :: k) e σ := by
 refine exists_congr fun n => ?_
 simp only [resume, wpCode, wpGOps]
theorem run_seq {a b : ACode} : Run T Q (.code (.seq a b) :: k) e σ ↔ Run T Q (.code a :: .code b :: k) e σ := by
 refine exists_congr fun n => ?_
 simp only [resume, wpCode]
 refine iff_of_eq (congrArg (wpCode (callW T n) n [] a e σ) ?_)
 funext x e' σ'
 cases x <;> simp only [resume]

theorem run_cond {c : Opd} {a b : ACode} : Run T Q (.code (.cond c a b) :: k) e σ ↔ match ev e c with
  | .bool t => if t = true then Run T Q (.code a :: k) e σ else Run T Q (.code b :: k) e σ
  | _ => False := by
 simp only [RunX, resume, wpCode]
 cases hc : ev e c <;> try (simp; done)
 rename_i t
 cases t <;> simp

theorem run_block {id : Nat} {b : ACode} : Run T Q (.code (.block id b) :: k) e σ ↔ Run T Q (.code b :: .inBlock id :: k) e σ := by
 refine exists_congr fun n => ?_
 simp only [resume, wpCode]
 refine iff_of_eq (congrArg (wpCode (callW T n) n [] b e σ) ?_)
 funext x e' σ'
 cases x <;> simp only [resume]

theorem run_loop {b : ACode} : Run T Q (.code (.loop b) :: k) e σ ↔ Run T Q (.inLoop b :: k) e σ := Iff.rfl

theorem run_round {b : ACode} : Run T Q (.inLoop b :: k) e σ ↔ Run T Q (.code b :: .inLoop b :: k) e σ := by
 constructor
 ·rintro ⟨n, h⟩
  cases n with
  | zero => exact h.elim
  | succ n =>
   refine ⟨n + 1, ?_⟩
   simp only [resume, loopA] at h ⊢
   refine code_mono (callW_sub T (Nat.le_refl _)) (Nat.le_refl _) b (fun x e' σ' h => ?_) h
   cases x with
   | normal => exact loop_mono (b := wpCode (callW T (n + 1)) (n + 1) [] b) (fun _ _ _ _ hq h => code_mono (callW_sub T (Nat.le_refl _)) (Nat.le_refl _) b hq h) (Nat.le_succ n) (fun _ _ _ h => h) h
   | exit i => exact h
   | ret => exact h
 ·rintro ⟨n, h⟩
  refine ⟨n + 1, ?_⟩
  simp only [resume, loopA] at h ⊢
  refine code_mono (callW_sub T (Nat.le_succ n)) (Nat.le_succ n) b (fun x e' σ' h => ?_) h
  have hr := resume_mono (callW_sub T (Nat.le_succ n)) (Nat.le_succ n) (fun _ _ _ h => h) k (Q := Q) (Q' := Q)
  cases x with
  | normal => exact loop_mono (b := wpCode (callW T n) n [] b) (b' := wpCode (callW T (n + 1)) (n + 1) [] b) (fun _ _ _ _ hq h => code_mono (callW_sub T (Nat.le_succ n)) (Nat.le_succ n) b hq h) (Nat.le_refl n) hr h
  | exit i => exact hr _ _ _ h
  | ret => exact hr _ _ _ h

theorem run_trunc {b : ACode} : Run T Q (.code (.trunc b) :: k) e σ ↔ Run T Q (.code b :: .inTrunc σ.length :: k) e σ := by
 refine exists_congr fun n => ?_
 simp only [resume, wpCode]
 refine iff_of_eq (congrArg (wpCode (callW T n) n [] b e σ) ?_)
 funext x e' σ'
 cases x <;> simp only [resume]

theorem run_scope {b : ACode} : Run T Q (.code (.scope b) :: k) e σ ↔ Run T Q (.code b :: k) e σ := Iff.rfl

theorem run_exit {i : Nat} : Run T Q (.code (.exit i) :: k) e σ ↔ RunX T Q (.exit i) k e σ := Iff.rfl

theorem resume_ret {cw : CallW} {n : Nat} : ∀ (k : List Item) {e : Env} {σ : Sto}, resume cw n Q k .ret e σ ↔ Q .ret e σ
 | [], _, _ => Iff.rfl
 | i :: k, e, σ => by cases i <;> simp only [resume] <;> exact resume_ret k

theorem run_ret : Run T Q (.code .ret :: k) e σ ↔ Q .ret e σ := by
 constructor
 ·rintro ⟨n, h⟩; exact (resume_ret k).1 h
 ·intro h; exact ⟨0, (resume_ret k).2 h⟩

theorem run_ghost {g : Ghost} : Run T Q (.code (.ghost g) :: k) e σ ↔ match ghostA g e σ with
  | some (e', σ') => Run T Q k e' σ'
  | none => False := by
 simp only [RunX, resume, wpCode]
 generalize ghostA g e σ = r
 cases r <;> simp

theorem run_endBlock {id : Nat} : Run T Q (.inBlock id :: k) e σ ↔ Run T Q k e σ := Iff.rfl
theorem run_endTrunc {m : Nat} : Run T Q (.inTrunc m :: k) e σ ↔ (σ.take m).all (AObj.under m) = true ∧ Run T Q k (sanitize m e) (σ.take m) := by
 simp only [RunX, resume]
 exact exists_and_left

theorem exit_code {i : Nat} {c : ACode} : RunX T Q (.exit i) (.code c :: k) e σ ↔ RunX T Q (.exit i) k e σ := Iff.rfl
theorem exit_loop {i : Nat} {c : ACode} : RunX T Q (.exit i) (.inLoop c :: k) e σ ↔ RunX T Q (.exit i) k e σ := Iff.rfl
theorem exit_gops {i : Nat} {c : List GOp} : RunX T Q (.exit i) (.gops c :: k) e σ ↔ RunX T Q (.exit i) k e σ := Iff.rfl
theorem exit_alt {i : Nat} {os : List AOper} {e0 : Env} {σ0 : Sto} : RunX T Q (.exit i) (.alt os e0 σ0 :: k) e σ ↔ RunX T Q (.exit i) k e σ := Iff.rfl
theorem exit_sep {i : Nat} {s : SepC} : RunX T Q (.exit i) (.sep s :: k) e σ ↔ RunX T Q (.exit i) k e σ := Iff.rfl
theorem exit_ops {i : Nat} {c : List AOper} : RunX T Q (.exit i) (.ops c :: k) e σ ↔ RunX T Q (.exit i) k e σ := Iff.rfl
theorem exit_trunc {i m : Nat} : RunX T Q (.exit i) (.inTrunc m :: k) e σ ↔ (σ.take m).all (AObj.under m) = true ∧ RunX T Q (.exit i) k (sanitize m e) (σ.take m) := by
 simp only [RunX, resume]
 exact exists_and_left
theorem exit_block {i id : Nat} : RunX T Q (.exit i) (.inBlock id :: k) e σ ↔ if i = id then Run T Q k e σ else RunX T Q (.exit i) k e σ := by
 simp only [RunX, resume]
 split <;> rfl

theorem ops_nil : Run T Q (.ops [] :: k) e σ ↔ Run T Q k e σ := Iff.rfl

theorem ops_call {d : Option Nat} {p : Bool} {f : FuncId} {xs : List Opd} {a r : List Nat} {os : List AOper} : Run T Q (.ops (⟨d, .call p f xs, none, a, r⟩ :: os) :: k) e σ ↔ Cw T p f (xs.map (ev e)) [] σ fun v σ' => Run T Q (.ops os :: k) (put e d v) σ' := by
 constructor
 ·rintro ⟨n, h⟩
  refine ⟨n, callW_sub T (Nat.le_refl n) _ _ _ _ _ _ _ (fun v σ' h => ?_) h⟩
  exact ⟨n, h⟩
 ·intro h
  obtain ⟨v, σ', ⟨m, h1⟩, h2⟩ := h.det
  obtain ⟨n, h3⟩ := h2 (R' := fun u τ => u = v ∧ τ = σ') ⟨rfl, rfl⟩
  refine ⟨max n m, ?_⟩
  refine callW_sub T (Nat.le_max_left n m) _ _ _ _ _ _ _ ?_ h3
  rintro u τ ⟨rfl, rfl⟩
  exact resume_mono (callW_sub T (Nat.le_max_right n m)) (Nat.le_max_right n m) (fun _ _ _ h => h) _ _ _ _ h1

theorem ops_callv {d : Option Nat} {p : Bool} {x : Opd} {xs : List Opd} {a r : List Nat} {os : List AOper} : Run T Q (.ops (⟨d, .callv p x xs, none, a, r⟩ :: os) :: k) e σ ↔ match ev e x with
  | .clo (.func f) first captured => Cw T p f (first ++ xs.map (ev e) ++ captured) [] σ fun v σ' => Run T Q (.ops os :: k) (put e d v) σ'
  | .yld l => p = false ∧ Cw T false yieldF (.yld l :: xs.map (ev e)) [] σ fun v σ' => Run T Q (.ops os :: k) (put e d v) σ'
  | _ => False := by
 cases hx : ev e x <;> try (simp only [RunX, resume, wpOpsA, wantedA, wpOper, hx]; simp; done)
 case yld l =>
  simp only
  constructor
  ·rintro ⟨n, h⟩
   simp only [resume, wpOpsA, wantedA, wpOper, hx] at h
   exact ⟨h.1, n, callW_sub T (Nat.le_refl n) _ _ _ _ _ _ _ (fun v σ' h => ⟨n, h⟩) h.2⟩
  ·rintro ⟨hp, h⟩
   obtain ⟨v, σ', ⟨m, h1⟩, h2⟩ := h.det
   obtain ⟨n, h3⟩ := h2 (R' := fun u τ => u = v ∧ τ = σ') ⟨rfl, rfl⟩
   refine ⟨max n m, ?_⟩
   simp only [resume, wpOpsA, wantedA, wpOper, hx]
   refine ⟨hp, callW_sub T (Nat.le_max_left n m) _ _ _ _ _ _ _ ?_ h3⟩
   rintro u τ ⟨rfl, rfl⟩
   exact resume_mono (callW_sub T (Nat.le_max_right n m)) (Nat.le_max_right n m) (fun _ _ _ h => h) _ _ _ _ h1
 rename_i f first captured
 cases f <;> try (simp only [RunX, resume, wpOpsA, wantedA, wpOper, hx]; simp; done)
 rename_i f
 simp only
 constructor
 ·rintro ⟨n, h⟩
  simp only [resume, wpOpsA, wantedA, wpOper, hx] at h
  refine ⟨n, callW_sub T (Nat.le_refl n) _ _ _ _ _ _ _ (fun v σ' h => ?_) h⟩
  exact ⟨n, h⟩
 ·intro h
  obtain ⟨v, σ', ⟨m, h1⟩, h2⟩ := h.det
  obtain ⟨n, h3⟩ := h2 (R' := fun u τ => u = v ∧ τ = σ') ⟨rfl, rfl⟩
  refine ⟨max n m, ?_⟩
  simp only [resume, wpOpsA, wantedA, wpOper, hx]
  refine callW_sub T (Nat.le_max_left n m) _ _ _ _ _ _ _ ?_ h3
  rintro u τ ⟨rfl, rfl⟩
  exact resume_mono (callW_sub T (Nat.le_max_right n m)) (Nat.le_max_right n m) (fun _ _ _ h => h) _ _ _ _ h1

theorem ops_step {o : AOp} {d : Option Nat} {a r : List Nat} {os : List AOper} (h1 : ∀ p f xs, o ≠ .call p f xs) (h2 : ∀ p x xs, o ≠ .callv p x xs) : Run T Q (.ops (⟨d, o, none, a, r⟩ :: os) :: k) e σ ↔ match stepOp [] o e σ with
  | some (v, σ') => Run T Q (.ops os :: k) (put e d v) σ'
  | none => False := by
 cases o <;> first | exact absurd rfl (h1 _ _ _) | exact absurd rfl (h2 _ _ _) | skip
 all_goals
  simp only [RunX, resume, wpOpsA, wantedA, wpOper]
  generalize stepOp [] _ e σ = r
  cases r <;> simp

theorem ops_guard {o : AOp} {d : Option Nat} {g : Nat} {want : Bool} {a r : List Nat} {os : List AOper} : Run T Q (.ops (⟨d, o, some (some g, want), a, r⟩ :: os) :: k) e σ ↔ match e[g]? with
  | some (.bool b) => if b = want then Run T Q (.ops (⟨d, o, none, a, r⟩ :: os) :: k) e σ else Run T Q (.ops os :: k) (put e d skipped) σ
  | some (.tup _) => Run T Q (.ops os :: k) (put e d skipped) σ
  | _ => False := by
 simp only [RunX, resume, wpOpsA, wantedA, Option.bind_some]
 cases e[g]? with
 | none => simp
 | some v =>
  cases v <;> try (simp; done)
  rename_i b
  cases b <;> cases want <;> simp [wpOper]

theorem cw_shared {f : FuncId} {af : AFunc} (hf : T f = some af) {args : List AVal} {R : Post} : Cw T false f args [] σ R ↔ Run T (fun x e σ' => retA af x e σ' (cutQ af.cut σ.length R)) [.code af.code] (initEnv af.ntmps args) σ := by
 constructor
 ·rintro ⟨n, h⟩
  cases n with
  | zero => exact absurd h (by simp [callW])
  | succ n => simp only [callW, hf] at h; exact ⟨n, h⟩
 ·rintro ⟨n, h⟩
  exact ⟨n + 1, by simp only [callW, hf]; exact h⟩

theorem cw_pure {f : FuncId} {af : AFunc} (hf : T f = some af) {args as : List AVal} (ha : args.mapM (snapA σ snapDepth) = some as) {lv : List Nat} {R : Post} : Cw T true f args lv σ R ↔
  Run T (fun x e σ' => retA af x e σ' fun v σ'' => match snapA σ'' snapDepth v with
   | some v' => (AVal.pures args = true ∨ v'.flat = true) ∧ R v' σ
   | none => False) [.code af.code] (initEnv af.ntmps as) [] := by
 constructor
 ·rintro ⟨n, h⟩
  cases n with
  | zero => exact absurd h (by simp [callW])
  | succ n => simp only [callW, hf, ha] at h; exact ⟨n, h⟩
 ·rintro ⟨n, h⟩
  exact ⟨n + 1, by simp only [callW, hf, ha]; exact h⟩

def RangeK (T : FuncId → Option AFunc) (Q : Post3) (k : List Item) (o : Nat) (e : Env) (σ : Sto) : Prop :=
 match σ[o]? with
 | some (.loop _ _ _ .ready) => Run T Q k e (σ.set o .dead)
 | some (.loop _ _ _ (.done x)) => RunX T Q x k e (σ.set o .dead)
 | _ => False
theorem rangeK_of {n o : Nat} (h : rangeEnd o e σ (resume (callW T n) n Q k)) : RangeK T Q k o e σ := by
 unfold rangeEnd at h
 unfold RangeK
 split at h
 ·rename_i hσ; try rw [hσ]
  exact ⟨n, h⟩
 ·rename_i hσ; try rw [hσ]
  exact ⟨n, h⟩
 ·exact h.elim
theorem rangeK_to {o : Nat} (h : RangeK T Q k o e σ) : ∃ n, rangeEnd o e σ (resume (callW T n) n Q k) := by
 unfold RangeK at h
 unfold rangeEnd
 split at h
 ·rename_i hσ; try rw [hσ]
  exact h
 ·rename_i hσ; try rw [hσ]
  exact h
 ·exact h.elim
theorem run_rangeF {x : Opd} {ps : List Nat} {b : ACode} : Run T Q (.code (.rangeF x ps b) :: k) e σ ↔ match ev e x with
  | .clo (.func g) first captured => Cw T false g (first ++ [.yld σ.length] ++ captured) [] (σ ++ [.loop ps b e .ready]) fun _ σ' => RangeK T Q k σ.length e σ'
  | _ => False := by
 cases hx : ev e x <;> try (simp only [RunX, resume, wpCode, hx]; simp; done)
 rename_i f first captured
 cases f <;> try (simp only [RunX, resume, wpCode, hx]; simp; done)
 rename_i f
 simp only
 constructor
 ·rintro ⟨n, h⟩
  simp only [resume, wpCode, hx] at h
  exact ⟨n, callW_sub T (Nat.le_refl n) _ _ _ _ _ _ _ (fun v σ' h => rangeK_of h) h⟩
 ·intro h
  obtain ⟨v, σ', hk, h2⟩ := h.det
  obtain ⟨m, h1⟩ := rangeK_to hk
  obtain ⟨n, h3⟩ := h2 (R' := fun u τ => u = v ∧ τ = σ') ⟨rfl, rfl⟩
  refine ⟨max n m, ?_⟩
  simp only [resume, wpCode, hx]
  refine callW_sub T (Nat.le_max_left n m) _ _ _ _ _ _ _ ?_ h3
  rintro u τ ⟨rfl, rfl⟩
  exact rangeEnd_mono (fun x e σ h => resume_mono (callW_sub T (Nat.le_max_right n m)) (Nat.le_max_right n m) (fun _ _ _ h => h) _ _ _ _ h) h1
theorem cw_yield (hT : T yieldF = none) {o : Nat} {ys : List AVal} {R : Post} : Cw T false yieldF (.yld o :: ys) [] σ R ↔ match σ[o]? with
  | some (.loop ps body e .ready) => ys.length = ps.length ∧ Run T (fun x _ σ' => roundEnd o x σ' R) [.code body] (putAll e ps ys) (σ.set o (.loop ps body e .busy))
  | _ => False := by
 constructor
 ·rintro ⟨n, h⟩
  cases n with
  | zero => exact absurd h (by simp [callW])
  | succ n =>
   simp only [callW, hT, true_and, yieldW] at h
   split at h
   ·rename_i hσ; try rw [hσ]
    exact ⟨h.1, n, h.2⟩
   ·exact h.elim
 ·intro h
  split at h
  ·rename_i hσ
   obtain ⟨h1, n, h2⟩ := h
   exact ⟨n + 1, by simp only [callW, hT, true_and, yieldW, hσ]; exact ⟨h1, h2⟩⟩
  ·exact h.elim

end
end Go.Abs
/- The frame of a walk: temporaries by number, values by what they are. -/
namespace Go.Abs
open Go

def look : List (Nat × AVal) → Nat → AVal
 | [], _ => .und
 | (k, v) :: L, t => if t = k then v else look L t
def ins : List (Nat × AVal) → Nat → AVal → List (Nat × AVal)
 | [], d, v => [(d, v)]
 | (k, w) :: L, d, v => if d < k then (d, v) :: (k, w) :: L else if d = k then (d, v) :: L else (k, w) :: ins L d v
def del : List (Nat × AVal) → Nat → List (Nat × AVal)
 | [], _ => []
 | (k, w) :: L, d => if d = k then del L d else (k, w) :: del L d
def dels : List (Nat × AVal) → List Nat → List (Nat × AVal)
 | L, [] => L
 | L, d :: ds => dels (del L d) ds
def numL : Nat → List AVal → List (Nat × AVal)
 | _, [] => []
 | i, a :: as => (i, a) :: numL (i + 1) as
def sanL (m : Nat) : List (Nat × AVal) → List (Nat × AVal)
 | [] => []
 | (k, v) :: L => (k, if v.under m then v else .und) :: sanL m L
def mkE (n : Nat) (L : List (Nat × AVal)) : Env := (List.range n).map (look L)

theorem mkE_get (n : Nat) (L : List (Nat × AVal)) (t : Nat) : (mkE n L)[t]? = if t < n then some (look L t) else none := by
 simp only [mkE, List.getElem?_map]
 split
 ·rename_i h; rw [List.getElem?_range h]; rfl
 ·rename_i h; rw [List.getElem?_eq_none (by simpa using h)]; rfl

theorem mkE_getD (n : Nat) (L : List (Nat × AVal)) (t : Nat) : (mkE n L).getD t .und = if t < n then look L t else .und := by
 rw [List.getD_eq_getElem?_getD, mkE_get]; split <;> rfl

theorem ev_tmp (n : Nat) (L : List (Nat × AVal)) (t : Nat) : ev (mkE n L) (.tmp t) = if t < n then look L t else .und := mkE_getD n L t
theorem ev_cst (e : Env) (v : AVal) : ev e (.cst v) = v := rfl

theorem look_ins : ∀ (L : List (Nat × AVal)) (d : Nat) (v : AVal) (t : Nat), look (ins L d v) t = if t = d then v else look L t
 | [], d, v, t => by simp [ins, look]
 | (k, w) :: L, d, v, t => by
  simp only [ins]
  split
  ·simp only [look]
  ·split
   ·rename_i h; subst h; simp only [look]; split <;> rfl
   ·simp only [look, look_ins L d v t]
    split <;> split <;> simp_all

theorem look_del : ∀ (L : List (Nat × AVal)) (d t : Nat), look (del L d) t = if t = d then .und else look L t
 | [], d, t => by simp [del, look]
 | (k, w) :: L, d, t => by
  simp only [del]
  split
  ·rename_i h; subst h; rw [look_del L]; simp only [look]; split <;> simp_all
  ·simp only [look, look_del L d t]
   split <;> split <;> simp_all

theorem mkE_set (n : Nat) (L : List (Nat × AVal)) (d : Nat) (v : AVal) : (mkE n L).set d v = mkE n (ins L d v) := by
 apply List.ext_getElem?
 intro t
 rw [List.getElem?_set, mkE_get, mkE_get, look_ins]
 have hl : (mkE n L).length = n := by simp [mkE]
 rw [hl]
 by_cases h : d = t
 ·subst h; simp
 ·rw [if_neg h]; simp [Ne.symm h]

theorem mkE_set_und (n : Nat) (L : List (Nat × AVal)) (d : Nat) : (mkE n L).set d .und = mkE n (del L d) := by
 apply List.ext_getElem?
 intro t
 rw [List.getElem?_set, mkE_get, mkE_get, look_del]
 have hl : (mkE n L).length = n := by simp [mkE]
 rw [hl]
 by_cases h : d = t
 ·subst h; simp
 ·rw [if_neg h]; simp [Ne.symm h]

theorem put_some (n : Nat) (L : List (Nat × AVal)) (d : Nat) (v : AVal) : put (mkE n L) (some d) v = mkE n (ins L d v) := mkE_set n L d v
theorem put_und (n : Nat) (L : List (Nat × AVal)) (d : Nat) : put (mkE n L) (some d) .und = mkE n (del L d) := mkE_set_und n L d
theorem put_none (e : Env) (v : AVal) : put e none v = e := rfl

theorem look_numL : ∀ (as : List AVal) (i t : Nat), look (numL i as) t = if i ≤ t then as.getD (t - i) .und else .und
 | [], i, t => by simp [numL, look]
 | a :: as, i, t => by
  simp only [numL, look, look_numL as (i + 1) t]
  by_cases h : t = i
  ·subst h; simp
  ·rw [if_neg h]
   by_cases h2 : i ≤ t
   ·rw [if_pos h2, if_pos (by omega)]
    obtain ⟨j, hj⟩ : ∃ j, t - i = j + 1 := ⟨t - i - 1, by omega⟩
    rw [show t - (i + 1) = j by omega, hj]; rfl
   ·rw [if_neg h2, if_neg (by omega)]

theorem init_mkE (n : Nat) (as : List AVal) (h : as.length ≤ n) : initEnv n as = mkE n (numL 0 as) := by
 apply List.ext_getElem?
 intro t
 rw [mkE_get, look_numL]
 simp only [initEnv, Nat.zero_le, if_true, Nat.sub_zero]
 by_cases ht : t < as.length
 ·rw [List.getElem?_append_left ht, if_pos (by omega), List.getD_eq_getElem?_getD, List.getElem?_eq_getElem ht]; rfl
 ·rw [List.getElem?_append_right (by omega), List.getElem?_replicate, List.getD_eq_getElem?_getD, List.getElem?_eq_none (by omega)]
  by_cases h2 : t < n
  ·rw [if_pos (by omega), if_pos h2]; rfl
  ·rw [if_neg (by omega), if_neg h2]

theorem dels_eq : ∀ (ts : List Nat) (n : Nat) (L : List (Nat × AVal)), ts.foldl (fun e t => e.set t .und) (mkE n L) = mkE n (dels L ts)
 | [], _, _ => rfl
 | t :: ts, n, L => by simp only [List.foldl_cons, mkE_set_und, dels, dels_eq ts]

theorem look_sanL (m : Nat) : ∀ (L : List (Nat × AVal)) (t : Nat), look (sanL m L) t = if (look L t).under m then look L t else .und
 | [], t => by simp only [sanL, look]; exact (ite_self _).symm
 | (k, v) :: L, t => by
  simp only [sanL, look, look_sanL m L t]
  split <;> rfl

theorem san_mkE (m n : Nat) (L : List (Nat × AVal)) : sanitize m (mkE n L) = mkE n (sanL m L) := by
 simp only [sanitize, mkE, List.map_map]
 apply List.map_congr_left
 intro t _
 simp only [Function.comp, look_sanL]

def after (T : FuncId → Option AFunc) (Q : Post3) (k : List Item) (os : List AOper) (d : Option Nat) (e : Env) (r : Option (AVal × Sto)) : Prop :=
 match r with
 | some (v, σ') => Run T Q (.ops os :: k) (put e d v) σ'
 | none => False

section
variable {T : FuncId → Option AFunc} {Q : Post3} {k : List Item} {e : Env} {σ : Sto} {os : List AOper} {d : Option Nat} {n : Nat} {L : List (Nat × AVal)}

@[go_sem] theorem after_some {v : AVal} {σ' : Sto} : after T Q k os d e (some (v, σ')) ↔ Run T Q (.ops os :: k) (put e d v) σ' := Iff.rfl
@[go_sem] theorem after_none : after T Q k os d e none ↔ False := Iff.rfl
@[go_sem] theorem after_ite {c : Prop} [Decidable c] {a b : Option (AVal × Sto)} : after T Q k os d e (if c then a else b) ↔ if c then after T Q k os d e a else after T Q k os d e b := by split <;> rfl

theorem run_unfold {c c' : ACode} (h : c = c') : Run T Q (.code c :: k) e σ ↔ Run T Q (.code c' :: k) e σ := by rw [h]

attribute [go_sem] run_nil run_skip run_region run_regionG run_regionD run_regionA run_alt exit_alt exit_sep gops_nil gops_op gops_gh exit_gops run_seq run_block run_loop run_trunc run_scope run_exit run_ret run_endBlock run_endTrunc exit_code exit_loop exit_ops exit_trunc exit_block ops_nil
 ev_tmp ev_cst look ins del dels sanL put_some put_none san_mkE

@[go_sem] theorem numL_0 : numL 0 [] = [] := rfl
@[go_sem] theorem numL_1 {a : AVal} : numL 0 [a] = [(0, a)] := rfl
@[go_sem] theorem numL_2 {a b : AVal} : numL 0 [a, b] = [(0, a), (1, b)] := rfl
@[go_sem] theorem numL_3 {a b c : AVal} : numL 0 [a, b, c] = [(0, a), (1, b), (2, c)] := rfl
@[go_sem] theorem numL_4 {a b c d : AVal} : numL 0 [a, b, c, d] = [(0, a), (1, b), (2, c), (3, d)] := rfl
@[go_sem] theorem numL_5 {a b c d e : AVal} : numL 0 [a, b, c, d, e] = [(0, a), (1, b), (2, c), (3, d), (4, e)] := rfl
@[go_sem] theorem numL_6 {a b c d e f : AVal} : numL 0 [a, b, c, d, e, f] = [(0, a), (1, b), (2, c), (3, d), (4, e), (5, f)] := rfl
@[go_sem] theorem numL_7 {a b c d e f g : AVal} : numL 0 [a, b, c, d, e, f, g] = [(0, a), (1, b), (2, c), (3, d), (4, e), (5, f), (6, g)] := rfl

@[go_sem] theorem st_mv {x : Opd} {a r : List Nat} : Run T Q (.ops (⟨d, .mv x, none, a, r⟩ :: os) :: k) e σ ↔ Run T Q (.ops os :: k) (put e d (ev e x)) σ := ops_step (by simp) (by simp)

def pickV (c a b : AVal) (σ : Sto) : Option (AVal × Sto) := match c with
 | .bool t => some (if t then a else b, σ)
 | _ => none
@[go_sem] theorem st_pick {c x y : Opd} {a r : List Nat} : Run T Q (.ops (⟨d, .pick c x y, none, a, r⟩ :: os) :: k) e σ ↔ after T Q k os d e (pickV (ev e c) (ev e x) (ev e y) σ) := ops_step (by simp) (by simp)
@[go_sem] theorem pickV_bool {t : Bool} {a b : AVal} : pickV (.bool t) a b σ = some (if t = true then a else b, σ) := by cases t <;> rfl

@[go_sem] theorem st_alloc {z : List AVal} {a r : List Nat} : Run T Q (.ops (⟨d, .alloc z, none, a, r⟩ :: os) :: k) e σ ↔ Run T Q (.ops os :: k) (put e d (.ptr σ.length z.length 0)) (σ ++ [.cells false z]) := ops_step (by simp) (by simp)

def boxV (m : Nat) (v : AVal) (σ : Sto) : Option (AVal × Sto) := if v.fits m then some (.ptr σ.length m 0, σ ++ [.cells false v.cells]) else none
@[go_sem] theorem st_box {m : Nat} {x : Opd} {a r : List Nat} : Run T Q (.ops (⟨d, .box m x, none, a, r⟩ :: os) :: k) e σ ↔ after T Q k os d e (boxV m (ev e x) σ) := ops_step (by simp) (by simp)

def buildV (z : List AVal) (ps : List (Nat × Nat × AVal)) (σ : Sto) : Option (AVal × Sto) := (fillA z ps).map fun cs => (.agg cs, σ)
@[go_sem] theorem st_build {z : List AVal} {ps : List (Nat × Nat × Opd)} {a r : List Nat} : Run T Q (.ops (⟨d, .build z ps, none, a, r⟩ :: os) :: k) e σ ↔ after T Q k os d e (buildV z (ps.map fun (o, s, x) => (o, s, ev e x)) σ) := ops_step (by simp) (by simp)

def bsliceV (m l : Nat) (z : List AVal) (ps : List (Nat × Nat × AVal)) (σ : Sto) : Option (AVal × Sto) := (fillA (List.replicate l z).flatten ps).map fun cs => (.ref σ.length cs.length 0 l m, σ ++ [.cells false cs])
@[go_sem] theorem st_bslice {m l : Nat} {z : List AVal} {ps : List (Nat × Opd)} {a r : List Nat} : Run T Q (.ops (⟨d, .bslice m l z ps, none, a, r⟩ :: os) :: k) e σ ↔ after T Q k os d e (bsliceV m l z (ps.map fun (i, x) => (i * m, m, ev e x)) σ) := ops_step (by simp) (by simp)

def flistV (m l : Nat) (z : List AVal) (ps : List (Nat × Nat × AVal)) (σ : Sto) : Option (AVal × Sto) := (fillA (List.replicate l z).flatten ps).bind fun cs => if AVal.pures cs = true ∧ cs.length = l * m ∧ 0 < m then some (.list m (chunk m l cs), σ) else none
@[go_sem] theorem st_flist {m l : Nat} {z : List AVal} {ps : List (Nat × Opd)} {a r : List Nat} : Run T Q (.ops (⟨d, .flist m l z ps, none, a, r⟩ :: os) :: k) e σ ↔ after T Q k os d e (flistV m l z (ps.map fun (i, x) => (i * m, m, ev e x)) σ) := ops_step (by simp) (by simp)

def loadV (agg : Bool) (m : Nat) (v : AVal) (σ : Sto) : Option (AVal × Sto) := match v with
 | .fptr cs => (loadA agg m cs).map (·, σ)
 | .ptr o gen off =>
  match σ[o]? with
  | some (.cells _ cs) => if cs.length = gen then (loadA agg m (cs.drop off)).map (·, σ) else none
  | _ => none
 | _ => none
@[go_sem] theorem st_load {g : Bool} {m : Nat} {x : Opd} {a r : List Nat} : Run T Q (.ops (⟨d, .load g m x, none, a, r⟩ :: os) :: k) e σ ↔ after T Q k os d e (loadV g m (ev e x) σ) := ops_step (by simp) (by simp)

def storeV (m : Nat) (p v : AVal) (σ : Sto) : Option (AVal × Sto) := match p with
 | .ptr o gen off =>
  match σ[o]? with
  | some (.cells nl cs) => if cs.length = gen ∧ off + m ≤ gen ∧ v.fits m then some (.und, σ.set o (.cells nl (overwrite cs off v.cells))) else none
  | _ => none
 | _ => none
@[go_sem] theorem st_store {m : Nat} {p x : Opd} {a r : List Nat} : Run T Q (.ops (⟨d, .store m p x, none, a, r⟩ :: os) :: k) e σ ↔ after T Q k os d e (storeV m (ev e p) (ev e x) σ) := by
 rw [ops_step (by simp) (by simp)]
 simp only [stepOp, storeV, lvOk, List.all_nil, and_true]
 rfl

def nilckV (v : AVal) (σ : Sto) : Option (AVal × Sto) := match v with
 | .ptr .. | .fptr _ | .clo (.func _) _ _ => some (v, σ)
 | _ => none
@[go_sem] theorem st_nilck {x : Opd} {a r : List Nat} : Run T Q (.ops (⟨d, .nilck x, none, a, r⟩ :: os) :: k) e σ ↔ after T Q k os d e (nilckV (ev e x) σ) := ops_step (by simp) (by simp)

def binV (op : BinOp) (x y : AVal) (σ : Sto) : Option (AVal × Sto) := (binA op x y).map (·, σ)
@[go_sem] theorem st_bin {op : BinOp} {x y : Opd} {a r : List Nat} : Run T Q (.ops (⟨d, .bin op x y, none, a, r⟩ :: os) :: k) e σ ↔ after T Q k os d e (binV op (ev e x) (ev e y) σ) := ops_step (by simp) (by simp)

def eqsV (neg : Bool) (sh : Shape) (x y : AVal) (σ : Sto) : Option (AVal × Sto) := (eqA sh x y).map fun b => (.bool (if neg then !b else b), σ)
@[go_sem] theorem st_eqs {g : Bool} {sh : Shape} {x y : Opd} {a r : List Nat} : Run T Q (.ops (⟨d, .eqs g sh x y, none, a, r⟩ :: os) :: k) e σ ↔ after T Q k os d e (eqsV g sh (ev e x) (ev e y) σ) := ops_step (by simp) (by simp)

def eqnilV (neg : Bool) (kd : NilK) (x : AVal) (σ : Sto) : Option (AVal × Sto) := match kd, x with
  | .sl, .nils | .pt, .nilp | .mp, .nilm | .fn, .nilf => some (.bool !neg, σ)
  | .sl, .emp | .sl, .list .. | .fn, .clo .. | .pt, .fptr _ | .mp, .fmap .. | .pt, .ptr .. | .mp, .map _ => some (.bool neg, σ)
  | .sl, .ref o gen _ _ _ =>
   match σ[o]? with
   | some (.cells nl cs) => if cs.length = gen then some (.bool (if nl && cs.isEmpty then !neg else neg), σ) else none
   | _ => none
  | _, _ => none
@[go_sem] theorem st_eqnil {g : Bool} {kd : NilK} {x : Opd} {a r : List Nat} : Run T Q (.ops (⟨d, .eqnil g kd x, none, a, r⟩ :: os) :: k) e σ ↔ after T Q k os d e (eqnilV g kd (ev e x) σ) := ops_step (by simp) (by simp)

def unV (op : UnOp) (x : AVal) (σ : Sto) : Option (AVal × Sto) := (unA op x).map (·, σ)
@[go_sem] theorem st_un {op : UnOp} {x : Opd} {a r : List Nat} : Run T Q (.ops (⟨d, .un op x, none, a, r⟩ :: os) :: k) e σ ↔ after T Q k os d e (unV op (ev e x) σ) := ops_step (by simp) (by simp)

def convV (kd : IntKind) (x : AVal) (σ : Sto) : Option (AVal × Sto) := match x with
 | .int _ n => some (.int kd (kd.wrap n), σ)
 | _ => none
@[go_sem] theorem st_conv {kd : IntKind} {x : Opd} {a r : List Nat} : Run T Q (.ops (⟨d, .conv kd x, none, a, r⟩ :: os) :: k) e σ ↔ after T Q k os d e (convV kd (ev e x) σ) := ops_step (by simp) (by simp)
@[go_sem] theorem convV_int {kd j : IntKind} {x : Int} : convV kd (.int j x) σ = some (.int kd (kd.wrap x), σ) := rfl

def sameV (x : AVal) (σ : Sto) : Option (AVal × Sto) := match x with
 | .str s => some (.str s, σ)
 | _ => none
@[go_sem] theorem st_same {x : Opd} {a r : List Nat} : Run T Q (.ops (⟨d, .same x, none, a, r⟩ :: os) :: k) e σ ↔ after T Q k os d e (sameV (ev e x) σ) := ops_step (by simp) (by simp)
@[go_sem] theorem sameV_str {s : ByteArray} : sameV (.str s) σ = some (.str s, σ) := rfl

def mkifV (t : TypeId) (x : AVal) (σ : Sto) : Option (AVal × Sto) := if x.isUnd then none else some (.iface t x, σ)
@[go_sem] theorem st_mkif {t : TypeId} {x : Opd} {a r : List Nat} : Run T Q (.ops (⟨d, .mkif t x, none, a, r⟩ :: os) :: k) e σ ↔ after T Q k os d e (mkifV t (ev e x) σ) := ops_step (by simp) (by simp)

@[go_sem] theorem st_mkfn {f : Fn} {xs ys : List Opd} {a r : List Nat} : Run T Q (.ops (⟨d, .mkfn f xs ys, none, a, r⟩ :: os) :: k) e σ ↔ Run T Q (.ops os :: k) (put e d (.clo f (xs.map (ev e)) (ys.map (ev e)))) σ := ops_step (by simp) (by simp)
@[go_sem] theorem st_mkmap {a r : List Nat} : Run T Q (.ops (⟨d, .mkmap, none, a, r⟩ :: os) :: k) e σ ↔ Run T Q (.ops os :: k) (put e d (.map σ.length)) (σ ++ [.map [] []]) := ops_step (by simp) (by simp)

def mksliceV (m bytes : Nat) (z : List AVal) (l c : AVal) (σ : Sto) : Option (AVal × Sto) := match l, c with
 | .int .i64 l, .int .i64 c =>
  if 0 ≤ l ∧ l ≤ c ∧ bytes * c.toNat ≤ 2 * maxBytes ∧ c ≤ IntKind.i64.max then
   some (.ref σ.length (c.toNat * m) 0 l.toNat m, σ ++ [.cells false (List.replicate c.toNat z).flatten]) else none
 | _, _ => none
@[go_sem] theorem st_mkslice {m b : Nat} {z : List AVal} {x y : Opd} {a r : List Nat} : Run T Q (.ops (⟨d, .mkslice m b z x y, none, a, r⟩ :: os) :: k) e σ ↔ after T Q k os d e (mksliceV m b z (ev e x) (ev e y) σ) := ops_step (by simp) (by simp)

def bnd (x : Option AVal) (d : Nat) : Option Nat := match x with
 | some v => natOf v
 | none => some d
theorem bound_eq (e : Env) (x : Option Opd) (d : Nat) : bound e x d = bnd (x.map (ev e)) d := by cases x <;> rfl
def sliceV (m : Nat) (v : AVal) (lo hi mx : Option AVal) (σ : Sto) : Option (AVal × Sto) := match v with
  | .nils => if bnd lo 0 = some 0 ∧ bnd hi 0 = some 0 ∧ bnd mx 0 = some 0 then some (.nils, σ) else none
  | .list k' xs =>
   match bnd lo 0, bnd hi xs.length, bnd mx xs.length with
   | some l, some h, some x =>
    if l ≤ h ∧ h ≤ x ∧ x ≤ xs.length ∧ m = k' then (if x = 0 ∧ mx.isSome then some (.emp, σ) else some (.list m ((xs.take h).drop l), σ)) else none
   | _, _, _ => none
  | .ref o gen off len k' =>
   match σ[o]? with
   | some (.cells nl cs) =>
    if cs.length = gen ∧ m = k' ∧ 0 < m then
     if nl && cs.isEmpty then
      (if bnd lo 0 = some 0 ∧ bnd hi 0 = some 0 ∧ bnd mx 0 = some 0 then some (.nils, σ) else none)
     else
     match mx with
     | none =>
      match bnd lo 0, bnd hi len with
      | some l, some h => if l ≤ h ∧ off + h * m ≤ gen then (if off + l * m = gen then some (.list m [], σ) else some (.ref o gen (off + l * m) (h - l) m, σ)) else none
      | _, _ => none
     | some _ =>
      match bnd lo 0, bnd hi len, bnd mx 0 with
      | some l, some h, some x => if l ≤ h ∧ h ≤ x ∧ off + x * m ≤ gen then some (if x = 0 then .emp else .und, σ) else none
      | _, _, _ => none
    else none
   | _ => none
  | _ => none
@[go_sem] theorem st_slice {m : Nat} {x : Opd} {lo hi mx : Option Opd} {a r : List Nat} : Run T Q (.ops (⟨d, .slice m x lo hi mx, none, a, r⟩ :: os) :: k) e σ ↔ after T Q k os d e (sliceV m (ev e x) (lo.map (ev e)) (hi.map (ev e)) (mx.map (ev e)) σ) := by
 rw [ops_step (by simp) (by simp)]
 simp only [stepOp, bound_eq]
 cases lo <;> cases hi <;> cases mx <;> rfl

def slstrV (v : AVal) (lo hi : Option AVal) (σ : Sto) : Option (AVal × Sto) := match v with
  | .str s =>
   match bnd lo 0, bnd hi s.size with
   | some l, some h => if l ≤ h ∧ h ≤ s.size then some (.str (s.extract l h), σ) else none
   | _, _ => none
  | _ => none
@[go_sem] theorem st_slstr {x : Opd} {lo hi : Option Opd} {a r : List Nat} : Run T Q (.ops (⟨d, .slstr x lo hi, none, a, r⟩ :: os) :: k) e σ ↔ after T Q k os d e (slstrV (ev e x) (lo.map (ev e)) (hi.map (ev e)) σ) := by
 rw [ops_step (by simp) (by simp)]
 simp only [stepOp, bound_eq]
 rfl

def slarrV (c m : Nat) (v : AVal) (lo hi : Option AVal) (σ : Sto) : Option (AVal × Sto) := match v, bnd lo 0, bnd hi c with
  | .ptr o gen off, some l, some h =>
   match σ[o]? with
   | some (.cells false cs) =>
    if cs.length = gen ∧ l ≤ h ∧ h ≤ c ∧ off + c * m = gen ∧ 0 < m then (if l = c then some (.list m [], σ) else some (.ref o gen (off + l * m) (h - l) m, σ)) else none
   | _ => none
  | .fptr cs, some l, some h => if l ≤ h ∧ h ≤ c ∧ c * m ≤ cs.length ∧ 0 < m then some (.list m (chunk m (h - l) (cs.drop (l * m))), σ) else none
  | _, _, _ => none
@[go_sem] theorem st_slarr {c m : Nat} {x : Opd} {lo hi : Option Opd} {a r : List Nat} : Run T Q (.ops (⟨d, .slarr c m x lo hi, none, a, r⟩ :: os) :: k) e σ ↔ after T Q k os d e (slarrV c m (ev e x) (lo.map (ev e)) (hi.map (ev e)) σ) := by
 rw [ops_step (by simp) (by simp)]
 simp only [stepOp, bound_eq]
 rfl

def faddrV (off : Nat) (x : AVal) (σ : Sto) : Option (AVal × Sto) := match x with
  | .ptr o gen a => some (.ptr o gen (a + off), σ)
  | .fptr cs => some (.fptr (cs.drop off), σ)
  | _ => none
@[go_sem] theorem st_faddr {off : Nat} {x : Opd} {a r : List Nat} : Run T Q (.ops (⟨d, .faddr off x, none, a, r⟩ :: os) :: k) e σ ↔ after T Q k os d e (faddrV off (ev e x) σ) := ops_step (by simp) (by simp)
@[go_sem] theorem faddrV_ptr {off o gen a : Nat} : faddrV off (.ptr o gen a) σ = some (.ptr o gen (a + off), σ) := rfl
@[go_sem] theorem faddrV_fptr {off : Nat} {cs : List AVal} : faddrV off (.fptr cs) σ = some (.fptr (cs.drop off), σ) := rfl

def fieldV (off size : Nat) (agg : Bool) (x : AVal) (σ : Sto) : Option (AVal × Sto) := match x with
  | .agg cs => if off + size ≤ cs.length then (loadA agg size (cs.drop off)).map (·, σ) else none
  | _ => none
@[go_sem] theorem st_field {off s : Nat} {g : Bool} {x : Opd} {a r : List Nat} : Run T Q (.ops (⟨d, .field off s g x, none, a, r⟩ :: os) :: k) e σ ↔ after T Q k os d e (fieldV off s g (ev e x) σ) := ops_step (by simp) (by simp)

def iaddrV (m : Nat) (x i : AVal) (σ : Sto) : Option (AVal × Sto) := match x, natOf i with
  | .list k' xs, some i => if m = k' then (xs[i]?).map fun v => (.fptr v.cells, σ) else none
  | .ref o gen off len k', some i =>
   match σ[o]? with
   | some (.cells _ cs) => if i < len ∧ m = k' ∧ cs.length = gen then some (.ptr o gen (off + i * m), σ) else none
   | _ => none
  | _, _ => none
@[go_sem] theorem st_iaddr {m : Nat} {x i : Opd} {a r : List Nat} : Run T Q (.ops (⟨d, .iaddr m x i, none, a, r⟩ :: os) :: k) e σ ↔ after T Q k os d e (iaddrV m (ev e x) (ev e i) σ) := ops_step (by simp) (by simp)

def iaddrAV (c m : Nat) (x i : AVal) (σ : Sto) : Option (AVal × Sto) := match x, natOf i with
  | .ptr o gen off, some i => if i < c then some (.ptr o gen (off + i * m), σ) else none
  | .fptr cs, some i => if i < c then some (.fptr (cs.drop (i * m)), σ) else none
  | _, _ => none
@[go_sem] theorem st_iaddrA {c m : Nat} {x i : Opd} {a r : List Nat} : Run T Q (.ops (⟨d, .iaddrA c m x i, none, a, r⟩ :: os) :: k) e σ ↔ after T Q k os d e (iaddrAV c m (ev e x) (ev e i) σ) := ops_step (by simp) (by simp)

def idxAV (c m : Nat) (agg : Bool) (x i : AVal) (σ : Sto) : Option (AVal × Sto) := match x, natOf i with
  | .agg cs, some i => if i < c ∧ i * m + m ≤ cs.length then (loadA agg m (cs.drop (i * m))).map (·, σ) else none
  | _, _ => none
@[go_sem] theorem st_idxA {c m : Nat} {g : Bool} {x i : Opd} {a r : List Nat} : Run T Q (.ops (⟨d, .idxA c m g x i, none, a, r⟩ :: os) :: k) e σ ↔ after T Q k os d e (idxAV c m g (ev e x) (ev e i) σ) := ops_step (by simp) (by simp)

def idxSV (x i : AVal) (σ : Sto) : Option (AVal × Sto) := match x, natOf i with
  | .str s, some i => (s[i]?).map fun b => (.int .u8 b.toNat, σ)
  | _, _ => none
@[go_sem] theorem st_idxS {x i : Opd} {a r : List Nat} : Run T Q (.ops (⟨d, .idxS x i, none, a, r⟩ :: os) :: k) e σ ↔ after T Q k os d e (idxSV (ev e x) (ev e i) σ) := ops_step (by simp) (by simp)

def lookAV (sh : Shape) (zero : AVal) (ok : Bool) (i : AVal) (ks vs : List AVal) (σ : Sto) : Option (AVal × Sto) :=
 if eqA sh i i = some true then
  match findA sh i ks 0 with
  | some (some j) => (vs[j]?).map fun v => (if ok then .tup [v, .bool true] else v, σ)
  | some none => some (if ok then .tup [zero, .bool false] else zero, σ)
  | none => none
 else none
def lookupV (sh : Shape) (zero : AVal) (ok : Bool) (m i : AVal) (σ : Sto) : Option (AVal × Sto) := match m with
  | .nilm => lookAV sh zero ok i [] [] σ
  | .fmap ks vs => lookAV sh zero ok i ks vs σ
  | .map o =>
   match σ[o]? with
   | some (.map ks vs) => lookAV sh zero ok i ks vs σ
   | _ => none
  | _ => none
@[go_sem] theorem st_lookup {sh : Shape} {z : AVal} {ok : Bool} {x i : Opd} {a r : List Nat} : Run T Q (.ops (⟨d, .lookup sh z ok x i, none, a, r⟩ :: os) :: k) e σ ↔ after T Q k os d e (lookupV sh z ok (ev e x) (ev e i) σ) := ops_step (by simp) (by simp)

def mapupV (sh : Shape) (m i v : AVal) (σ : Sto) : Option (AVal × Sto) := match m with
  | .map o =>
   match σ[o]? with
   | some (.map ks vs) =>
    if eqA sh i i = some true then
     match findA sh i ks 0 with
     | some (some j) => if sameA i (ks.getD j .und) then some (.und, σ.set o (.map ks (vs.set j v))) else none
     | some none => some (.und, σ.set o (.map (ks ++ [i]) (vs ++ [v])))
     | none => none
    else none
   | _ => none
  | _ => none
def mapentV (sh : Shape) (zero m i : AVal) (σ : Sto) : Option (AVal × Sto) := match m with
  | .map o =>
   match σ[o]? with
   | some (.map ks vs) =>
    if eqA sh i i = some true then
     match findA sh i ks 0 with
     | some (some j) => if sameA i (ks.getD j .und) then (vs[j]?).map fun v => (.tup [v, .int .i64 j], σ) else none
     | some none => some (.tup [zero, .int .i64 ks.length], σ.set o (.map (ks ++ [i]) (vs ++ [zero])))
     | none => none
    else none
   | _ => none
  | _ => none
@[go_sem] theorem st_mapent {sh : Shape} {z : AVal} {m i : Opd} {a r : List Nat} : Run T Q (.ops (⟨d, .mapent sh z m i, none, a, r⟩ :: os) :: k) e σ ↔ after T Q k os d e (mapentV sh z (ev e m) (ev e i) σ) := by
 rw [ops_step (by simp) (by simp)]
 simp only [stepOp, lvOk, List.all_nil, true_and]
 rfl
def entstV (m s v : AVal) (σ : Sto) : Option (AVal × Sto) := match m, s with
  | .map o, .int .i64 j =>
   match σ[o]? with
   | some (.map ks vs) => if 0 ≤ j ∧ j.toNat < vs.length then some (.und, σ.set o (.map ks (vs.set j.toNat v))) else none
   | _ => none
  | _, _ => none
@[go_sem] theorem st_entst {m s v : Opd} {a r : List Nat} : Run T Q (.ops (⟨d, .entst m s v, none, a, r⟩ :: os) :: k) e σ ↔ after T Q k os d e (entstV (ev e m) (ev e s) (ev e v) σ) := by
 rw [ops_step (by simp) (by simp)]
 simp only [stepOp, lvOk, List.all_nil, and_true]
 rfl
def mkslFV (m bytes : Nat) (z : List AVal) (l c : AVal) (σ : Sto) : Option (AVal × Sto) := match l, c with
 | .int .i64 l, .int .i64 c =>
  if 0 ≤ l ∧ l = c ∧ bytes * c.toNat ≤ 2 * maxBytes ∧ c ≤ IntKind.i64.max ∧ z.length = m ∧ 0 < m ∧ AVal.pures (List.replicate c.toNat z).flatten = true then
   some (.list m (chunk m c.toNat (List.replicate c.toNat z).flatten), σ) else none
 | _, _ => none
@[go_sem] theorem st_mkslF {m b : Nat} {z : List AVal} {x y : Opd} {a r : List Nat} : Run T Q (.ops (⟨d, .mkslF m b z x y, none, a, r⟩ :: os) :: k) e σ ↔ after T Q k os d e (mkslFV m b z (ev e x) (ev e y) σ) := ops_step (by simp) (by simp)
def allocnV (zero : List AVal) (off m : Nat) (σ : Sto) : Option (AVal × Sto) := match zero[off]? with
  | some .nils => some (.ptr σ.length zero.length 0, σ ++ [.cells false (zero.set off (.ref (σ.length + 1) 0 0 0 m)), .cells true []])
  | _ => none
@[go_sem] theorem st_allocn {z : List AVal} {off m : Nat} {a r : List Nat} : Run T Q (.ops (⟨d, .allocn z off m, none, a, r⟩ :: os) :: k) e σ ↔ after T Q k os d e (allocnV z off m σ) := ops_step (by simp) (by simp)
@[go_sem] theorem st_mapup {sh : Shape} {m i v : Opd} {a r : List Nat} : Run T Q (.ops (⟨d, .mapup sh m i v, none, a, r⟩ :: os) :: k) e σ ↔ after T Q k os d e (mapupV sh (ev e m) (ev e i) (ev e v) σ) := by
 rw [ops_step (by simp) (by simp)]
 simp only [stepOp, lvOk, List.all_nil, true_and]
 rfl

def extrV (x : AVal) (i : Nat) (σ : Sto) : Option (AVal × Sto) := match x with
  | .tup vs => (vs[i]?).map (·, σ)
  | _ => none
@[go_sem] theorem st_extr {x : Opd} {i : Nat} {a r : List Nat} : Run T Q (.ops (⟨d, .extr x i, none, a, r⟩ :: os) :: k) e σ ↔ after T Q k os d e (extrV (ev e x) i σ) := ops_step (by simp) (by simp)
@[go_sem] theorem extrV_tup {vs : List AVal} {i : Nat} : extrV (.tup vs) i σ = (vs[i]?).map (·, σ) := rfl

def lenV (kd : LenK) (x : AVal) (σ : Sto) : Option (AVal × Sto) := match kd, x with
  | .sl, .nils | .sl, .emp | .mp, .nilm => some (.int .i64 0, σ)
  | .sl, .list _ xs => some (.int .i64 xs.length, σ)
  | .str, .str s => some (.int .i64 s.size, σ)
  | .mp, .fmap ks _ => some (.int .i64 ks.length, σ)
  | .sl, .ref o gen _ len _ =>
   match σ[o]? with
   | some (.cells _ cs) => if cs.length = gen then some (.int .i64 len, σ) else none
   | _ => none
  | .mp, .map o =>
   match σ[o]? with
   | some (.map ks _) => some (.int .i64 ks.length, σ)
   | _ => none
  | _, _ => none
@[go_sem] theorem st_len {kd : LenK} {x : Opd} {a r : List Nat} : Run T Q (.ops (⟨d, .len kd x, none, a, r⟩ :: os) :: k) e σ ↔ after T Q k os d e (lenV kd (ev e x) σ) := ops_step (by simp) (by simp)

def capV (x : AVal) (σ : Sto) : Option (AVal × Sto) := match x with
  | .nils | .emp => some (.int .i64 0, σ)
  | _ => none
@[go_sem] theorem st_cap {x : Opd} {a r : List Nat} : Run T Q (.ops (⟨d, .cap x, none, a, r⟩ :: os) :: k) e σ ↔ after T Q k os d e (capV (ev e x) σ) := ops_step (by simp) (by simp)

def appendV (m bytes : Nat) (s x : AVal) (σ : Sto) : Option (AVal × Sto) := match rowOf σ x with
  | none => none
  | some (c, new) =>
   if new.length = c * m ∧ 0 < m ∧ new.all AVal.one then
    match s with
    | .nils | .emp => if c = 0 then some (s, σ) else if c * bytes ≤ maxBytes then some (.ref σ.length (c * m) 0 c m, σ ++ [.cells false new]) else none
    | .ref o gen off len k' =>
     match σ[o]? with
     | some (.cells nl cs) =>
      if cs.length = gen ∧ m = k' then
       if c = 0 then some (s, σ)
       else if off + (len + c) * m ≤ gen then some (.ref o gen off (len + c) m, σ.set o (.cells nl (overwrite cs (off + len * m) new)))
       else if off = 0 ∧ (len + c) * bytes ≤ maxBytes then some (.ref o ((len + c) * m) 0 (len + c) m, σ.set o (.cells nl (cs.take (len * m) ++ new)))
       else none
      else none
     | _ => none
    | _ => none
   else none
@[go_sem] theorem st_append {m b : Nat} {s x : Opd} {a r : List Nat} : Run T Q (.ops (⟨d, .append m b s x, none, a, r⟩ :: os) :: k) e σ ↔ after T Q k os d e (appendV m b (ev e s) (ev e x) σ) := by
 rw [ops_step (by simp) (by simp)]
 simp only [stepOp, lvOk, List.all_nil, and_true]
 rfl

def appendzV (m bytes : Nat) (zero : List AVal) (s x : AVal) (σ : Sto) : Option (AVal × Sto) := match s, x with
  | .nils, .int .i64 n =>
   if 0 ≤ n ∧ n.toNat * bytes ≤ maxBytes ∧ 0 < m then
    (if n = 0 then some (.nils, σ) else some (.ref σ.length (n.toNat * m) 0 n.toNat m, σ ++ [.cells false (List.replicate n.toNat zero).flatten])) else none
  | _, _ => none
@[go_sem] theorem st_appendz {m b : Nat} {z : List AVal} {s x : Opd} {a r : List Nat} : Run T Q (.ops (⟨d, .appendz m b z s x, none, a, r⟩ :: os) :: k) e σ ↔ after T Q k os d e (appendzV m b z (ev e s) (ev e x) σ) := ops_step (by simp) (by simp)

def appendFV (m bytes : Nat) (s x : AVal) (σ : Sto) : Option (AVal × Sto) := match rowOf σ x, s with
  | some (c, new), .ref o gen off len k' =>
   match σ[o]? with
   | some (.cells false cs) =>
    if new.length = c * m ∧ 0 < m ∧ new.all AVal.one ∧ cs.length = gen ∧ m = k' ∧ off = 0 ∧ len * m = gen ∧ (len + c) * bytes ≤ maxBytes ∧ AVal.pures (cs ++ new) then
     some (.list m (chunk m (len + c) (cs ++ new)), σ.set o .dead)
    else none
   | _ => none
  | _, _ => none
@[go_sem] theorem st_appendF {m b : Nat} {s x : Opd} {a r : List Nat} : Run T Q (.ops (⟨d, .appendF m b s x, none, a, r⟩ :: os) :: k) e σ ↔ after T Q k os d e (appendFV m b (ev e s) (ev e x) σ) := by
 rw [ops_step (by simp) (by simp)]
 simp only [stepOp, lvOk, List.all_nil, true_and]
 rfl

def copyV (m : Nat) (d s : AVal) (σ : Sto) : Option (AVal × Sto) := match d, rowOf σ s with
  | .nils, some _ => some (.int .i64 0, σ)
  | .ref o gen off len k', some (c, src) =>
   match σ[o]? with
   | some (.cells nl cs) =>
    if cs.length = gen ∧ m = k' ∧ src.length = c * m ∧ off + len * m ≤ gen ∧ src.all AVal.one then
     some (.int .i64 (min c len : Nat), σ.set o (.cells nl (overwrite cs off (src.take (min c len * m))))) else none
   | _ => none
  | _, _ => none
@[go_sem] theorem st_copy {m : Nat} {x y : Opd} {a r : List Nat} : Run T Q (.ops (⟨d, .copy m x y, none, a, r⟩ :: os) :: k) e σ ↔ after T Q k os d e (copyV m (ev e x) (ev e y) σ) := by
 rw [ops_step (by simp) (by simp)]
 simp only [stepOp, lvOk, List.all_nil, true_and]
 rfl

def deleteV (sh : Shape) (m i : AVal) (σ : Sto) : Option (AVal × Sto) := match m with
  | .map o =>
   match σ[o]? with
   | some (.map ks vs) =>
    if eqA sh i i = some true then
     match findA sh i ks 0 with
     | some (some _) => none
     | some none => some (.tup [], σ)
     | none => none
    else none
   | _ => none
  | _ => none
@[go_sem] theorem st_delete {sh : Shape} {m i : Opd} {a r : List Nat} : Run T Q (.ops (⟨d, .delete sh m i, none, a, r⟩ :: os) :: k) e σ ↔ after T Q k os d e (deleteV sh (ev e m) (ev e i) σ) := ops_step (by simp) (by simp)

def minmaxV (isMax : Bool) (xs : List AVal) (σ : Sto) : Option (AVal × Sto) := match xs with
  | .int k a :: rest =>
   (rest.foldlM (fun (m : Int) (v : AVal) => match v with
    | .int _ y => some (if isMax then (if m < y then y else m) else (if y < m then y else m))
    | _ => none) a).map fun m => (.int k m, σ)
  | _ => none
@[go_sem] theorem st_minmax {g : Bool} {xs : List Opd} {a r : List Nat} : Run T Q (.ops (⟨d, .minmax g xs, none, a, r⟩ :: os) :: k) e σ ↔ after T Q k os d e (minmaxV g (xs.map (ev e)) σ) := ops_step (by simp) (by simp)
@[go_sem] theorem minmaxV_two {g : Bool} {kd kd' : IntKind} {x y : Int} : minmaxV g [.int kd x, .int kd' y] σ = some (.int kd (if g = true then (if x < y then y else x) else (if y < x then y else x)), σ) := by cases g <;> rfl

def arrpV (c m : Nat) (x : AVal) (σ : Sto) : Option (AVal × Sto) := match x with
  | .ref o gen off len k' =>
   match σ[o]? with
   | some (.cells false cs) => if cs.length = gen ∧ m = k' ∧ c ≤ len then some (.ptr o gen off, σ) else none
   | _ => none
  | .list k' xs => if c ≤ xs.length ∧ 0 < c ∧ m = k' then some (.fptr ((xs.take c).flatMap AVal.cells), σ) else none
  | _ => none
@[go_sem] theorem st_arrp {c m : Nat} {x : Opd} {a r : List Nat} : Run T Q (.ops (⟨d, .arrp c m x, none, a, r⟩ :: os) :: k) e σ ↔ after T Q k os d e (arrpV c m (ev e x) σ) := ops_step (by simp) (by simp)

def CallK (T : FuncId → Option AFunc) (Q : Post3) (k : List Item) (os : List AOper) (d : Option Nat) (e : Env) (σ : Sto) (p : Bool) (f : FuncId) (args : List AVal) : Prop := Cw T p f args [] σ fun v σ' => Run T Q (.ops os :: k) (put e d v) σ'
@[go_sem] theorem st_call {p : Bool} {f : FuncId} {xs : List Opd} {a r : List Nat} : Run T Q (.ops (⟨d, .call p f xs, none, a, r⟩ :: os) :: k) e σ ↔ CallK T Q k os d e σ p f (xs.map (ev e)) := ops_call
theorem callK_of {f : FuncId} {args : List AVal} {v : AVal} (h : ∀ {lv : List Nat} {σ : Sto} {R : Post}, Cw T true f args lv σ R ↔ R v σ) : CallK T Q k os d e σ true f args ↔ Run T Q (.ops os :: k) (put e d v) σ := h
theorem callK_shared {f : FuncId} {args : List AVal} {v : AVal} {σ' : Sto} (h : ∀ {R : Post}, Cw T false f args [] σ R ↔ R v σ') : CallK T Q k os d e σ false f args ↔ Run T Q (.ops os :: k) (put e d v) σ' := h

def callvX (T : FuncId → Option AFunc) (Q : Post3) (k : List Item) (os : List AOper) (d : Option Nat) (e : Env) (σ : Sto) (p : Bool) (args : List AVal) (x : AVal) : Prop := match x with
 | .clo (.func f) first captured => CallK T Q k os d e σ p f (first ++ args ++ captured)
 | .yld l => p = false ∧ CallK T Q k os d e σ false yieldF (.yld l :: args)
 | _ => False
@[go_sem] theorem callvX_yld {args : List AVal} {l : Nat} : callvX T Q k os d e σ false args (.yld l) ↔ CallK T Q k os d e σ false yieldF (.yld l :: args) := by
 simp only [callvX, true_and]
@[go_sem] theorem st_callv {p : Bool} {x : Opd} {xs : List Opd} {a r : List Nat} : Run T Q (.ops (⟨d, .callv p x xs, none, a, r⟩ :: os) :: k) e σ ↔ callvX T Q k os d e σ p (xs.map (ev e)) (ev e x) := ops_callv
@[go_sem] theorem callvX_clo {p : Bool} {args first captured : List AVal} {f : FuncId} : callvX T Q k os d e σ p args (.clo (.func f) first captured) ↔ CallK T Q k os d e σ p f (first ++ args ++ captured) := Iff.rfl

def guardX (T : FuncId → Option AFunc) (Q : Post3) (k : List Item) (os : List AOper) (n : Nat) (L : List (Nat × AVal)) (σ : Sto) (d : Option Nat) (o : AOp) (a r : List Nat) (want : Bool) (x : AVal) : Prop := match x with
 | .bool b => if b = want then Run T Q (.ops (⟨d, o, none, a, r⟩ :: os) :: k) (mkE n L) σ else Run T Q (.ops os :: k) (put (mkE n L) d skipped) σ
 | .tup _ => Run T Q (.ops os :: k) (put (mkE n L) d skipped) σ
 | _ => False
@[go_sem] theorem guardX_tup {o : AOp} {want : Bool} {a r : List Nat} {vs : List AVal} : guardX T Q k os n L σ d o a r want (.tup vs) ↔ Run T Q (.ops os :: k) (put (mkE n L) d skipped) σ := Iff.rfl
@[go_sem] theorem st_guard {o : AOp} {g : Nat} {want : Bool} {a r : List Nat} : Run T Q (.ops (⟨d, o, some (some g, want), a, r⟩ :: os) :: k) (mkE n L) σ ↔ guardX T Q k os n L σ d o a r want (if g < n then look L g else .und) := by
 rw [ops_guard, mkE_get]
 by_cases h : g < n
 ·rw [if_pos h, if_pos h]
  cases look L g <;> rfl
 ·rw [if_neg h, if_neg h]
  exact Iff.rfl
@[go_sem] theorem guardX_bool {o : AOp} {want b : Bool} {a r : List Nat} : guardX T Q k os n L σ d o a r want (.bool b) ↔ if b = want then Run T Q (.ops (⟨d, o, none, a, r⟩ :: os) :: k) (mkE n L) σ else Run T Q (.ops os :: k) (put (mkE n L) d skipped) σ := Iff.rfl

def condX (T : FuncId → Option AFunc) (Q : Post3) (k : List Item) (e : Env) (σ : Sto) (x : ACode) (y : ACode) (c : AVal) : Prop := match c with
 | .bool t => if t = true then Run T Q (.code x :: k) e σ else Run T Q (.code y :: k) e σ
 | _ => False
def RangeC (T : FuncId → Option AFunc) (Q : Post3) (k : List Item) (e : Env) (σ : Sto) (ps : List Nat) (b : ACode) (f : FuncId) (first captured : List AVal) : Prop :=
 Cw T false f (first ++ [.yld σ.length] ++ captured) [] (σ ++ [.loop ps b e .ready]) fun _ σ' => RangeK T Q k σ.length e σ'
def rangeX (T : FuncId → Option AFunc) (Q : Post3) (k : List Item) (e : Env) (σ : Sto) (ps : List Nat) (b : ACode) (x : AVal) : Prop := match x with
 | .clo (.func f) first captured => RangeC T Q k e σ ps b f first captured
 | _ => False
@[go_sem] theorem st_rangeF {x : Opd} {ps : List Nat} {b : ACode} : Run T Q (.code (.rangeF x ps b) :: k) e σ ↔ rangeX T Q k e σ ps b (ev e x) := run_rangeF
@[go_sem] theorem rangeX_clo {ps : List Nat} {b : ACode} {f : FuncId} {first captured : List AVal} : rangeX T Q k e σ ps b (.clo (.func f) first captured) ↔ RangeC T Q k e σ ps b f first captured := Iff.rfl
@[go_sem] theorem apart_yld {o : Nat} {v : AVal} : (AVal.yld o).apart v = (!v.isUnd && v.names fun q => decide (o ≠ q)) := rfl
@[go_sem] theorem there_yld {o : Nat} : (AVal.yld o).there = true := rfl

@[go_sem] theorem st_cond {c : Opd} {x y : ACode} : Run T Q (.code (.cond c x y) :: k) e σ ↔ condX T Q k e σ x y (ev e c) := run_cond
@[go_sem] theorem condX_bool {t : Bool} {x y : ACode} : condX T Q k e σ x y (.bool t) ↔ if t = true then Run T Q (.code x :: k) e σ else Run T Q (.code y :: k) e σ := Iff.rfl

@[go_sem] theorem st_kill {ts : List Nat} : Run T Q (.code (.ghost (.kill ts)) :: k) (mkE n L) σ ↔ Run T Q k (mkE n (dels L ts)) σ := by
 rw [run_ghost]; simp only [ghostA, dels_eq]

def freezeV (v : AVal) (σ : Sto) : Option (AVal × Sto) := match v with
  | .ref o gen off len k =>
   match σ[o]? with
   | some (.cells nl cs) =>
    if cs.length = gen ∧ off + len * k ≤ gen ∧ 0 < k ∧ AVal.pures cs then
     some (if nl && cs.isEmpty then .nils else .list k (chunk k len ((cs.drop off).take (len * k))), σ.set o .dead)
    else none
   | _ => none
  | .ptr o gen off =>
   match σ[o]? with
   | some (.cells _ cs) => if cs.length = gen ∧ AVal.pures cs then some (.fptr (cs.drop off), σ.set o .dead) else none
   | _ => none
  | .map o =>
   match σ[o]? with
   | some (.map ks vs) => if AVal.pures ks ∧ AVal.pures vs then some (.fmap ks vs, σ.set o .dead) else none
   | _ => none
  | v => if v.pure then some (v, σ) else none

def afterG (T : FuncId → Option AFunc) (Q : Post3) (k : List Item) (n : Nat) (L : List (Nat × AVal)) (t : Nat) (r : Option (AVal × Sto)) : Prop := match r with
 | some (v, σ') => Run T Q k (mkE n (ins L t v)) σ'
 | none => False
@[go_sem] theorem afterG_some {t : Nat} {v : AVal} {σ' : Sto} : afterG T Q k n L t (some (v, σ')) ↔ Run T Q k (mkE n (ins L t v)) σ' := Iff.rfl
@[go_sem] theorem afterG_none {t : Nat} : afterG T Q k n L t none ↔ False := Iff.rfl

theorem mkE_same (n : Nat) (L : List (Nat × AVal)) (t : Nat) : mkE n (ins L t (look L t)) = mkE n L := by
 apply List.ext_getElem?
 intro i
 rw [mkE_get, mkE_get, look_ins]
 split
 ·split
  ·rename_i h; rw [h]
  ·rfl
 ·rfl

@[go_sem] theorem st_freeze {t : Nat} : Run T Q (.code (.ghost (.freeze t)) :: k) (mkE n L) σ ↔ if t < n then afterG T Q k n L t (freezeV (look L t) σ) else Run T Q k (mkE n L) σ := by
 rw [run_ghost]
 simp only [ghostA, mkE_getD]
 by_cases h : t < n
 ·rw [if_pos h, if_pos h]
  have hsame := mkE_same n L t
  generalize hx : look L t = x at hsame
  cases x <;> simp only [freezeV]
  case ref o gen off len k' =>
   cases σ[o]? with
   | none => exact Iff.rfl
   | some ob =>
    cases ob with
    | cells nl cs =>
     simp only
     by_cases hc : (cs.length = gen ∧ off + len * k' ≤ gen ∧ 0 < k' ∧ AVal.pures cs = true)
     ·rw [if_pos hc, if_pos hc]; simp only [afterG_some, mkE_set]
     ·rw [if_neg hc, if_neg hc]; simp only [afterG_none]
    | _ => exact Iff.rfl
  case ptr o gen off =>
   cases σ[o]? with
   | none => exact Iff.rfl
   | some ob =>
    cases ob with
    | cells nl cs =>
     simp only
     by_cases hc : (cs.length = gen ∧ AVal.pures cs = true)
     ·rw [if_pos hc, if_pos hc]; simp only [afterG_some, mkE_set]
     ·rw [if_neg hc, if_neg hc]; simp only [afterG_none]
    | _ => exact Iff.rfl
  case map o =>
   cases σ[o]? with
   | none => exact Iff.rfl
   | some ob =>
    cases ob with
    | map ks vs =>
     simp only
     by_cases hc : (AVal.pures ks = true ∧ AVal.pures vs = true)
     ·rw [if_pos hc, if_pos hc]; simp only [afterG_some, mkE_set]
     ·rw [if_neg hc, if_neg hc]; simp only [afterG_none]
    | _ => exact Iff.rfl
  all_goals
   split
   ·rename_i h; split at h <;> simp_all [afterG]
   ·rename_i h; split at h <;> simp_all [afterG]
 ·rw [if_neg h, if_neg h]
  simp [AVal.names]

@[go_sem] theorem st_nilref {t m : Nat} : Run T Q (.code (.ghost (.nilref t m)) :: k) (mkE n L) σ ↔ if t < n then (match look L t with
  | .nils => Run T Q k (mkE n (ins L t (.ref σ.length 0 0 0 m))) (σ ++ [.cells true []])
  | _ => False) else False := by
 rw [run_ghost]
 simp only [ghostA, mkE_getD]
 by_cases h : t < n
 ·rw [if_pos h, if_pos h]
  cases look L t <;> simp [mkE_set]
 ·rw [if_neg h, if_neg h]

@[go_sem] theorem st_nilagg {t off m : Nat} : Run T Q (.code (.ghost (.nilagg t off m)) :: k) (mkE n L) σ ↔ if t < n then (match nilaggV off m (look L t) σ.length with
  | some v => Run T Q k (mkE n (ins L t v)) (σ ++ [.cells true []])
  | none => False) else False := by
 rw [run_ghost]
 simp only [ghostA, mkE_getD]
 by_cases h : t < n
 ·rw [if_pos h, if_pos h]
  cases nilaggV off m (look L t) σ.length <;> simp [mkE_set]
 ·rw [if_neg h, if_neg h]; simp [nilaggV]
@[go_sem] theorem nilaggV_agg {off m : Nat} {cs : List AVal} {i : Nat} : nilaggV off m (.agg cs) i = match cs[off]? with
  | some .nils => some (.agg (cs.set off (.ref i 0 0 0 m)))
  | _ => none := rfl

@[go_sem] theorem st_dfreeze {t : Nat} : Run T Q (.code (.ghost (.dfreeze t)) :: k) (mkE n L) σ ↔ if t < n then afterG T Q k n L t (deepA snapDepth σ (look L t)) else Run T Q k (mkE n L) σ := by
 rw [run_ghost]
 simp only [ghostA, mkE_getD]
 by_cases h : t < n
 ·rw [if_pos h, if_pos h]
  cases deepA snapDepth σ (look L t) with
  | none => exact Iff.rfl
  | some p => obtain ⟨v, τ⟩ := p; simp only [mkE_set, afterG_some]
 ·rw [if_neg h, if_neg h]
  have e1 : deepA snapDepth σ AVal.und = some (.und, σ) := by simp [snapDepth, deepA, AVal.names]
  have e2 : (mkE n L).set t .und = mkE n L := List.set_eq_of_length_le (by simp [mkE]; omega)
  simp only [e1, e2]

def innerV (v : AVal) (σ : Sto) : Option Sto := match v with
  | .ref o gen _ _ _ | .ptr o gen _ =>
   match σ[o]? with
   | some (.cells nl cs) =>
    if cs.length = gen then
     match deepL (deepA snapDepth) σ cs with
     | some (cs', σ1) =>
      match σ1[o]? with
      | some (.cells _ _) => some (σ1.set o (.cells nl cs'))
      | _ => none
     | none => none
    else none
   | _ => none
  | _ => none
def afterI (T : FuncId → Option AFunc) (Q : Post3) (k : List Item) (e : Env) (r : Option Sto) : Prop := match r with
 | some σ' => Run T Q k e σ'
 | none => False
@[go_sem] theorem afterI_some {σ' : Sto} : afterI T Q k e (some σ') ↔ Run T Q k e σ' := Iff.rfl
@[go_sem] theorem afterI_none : afterI T Q k e none ↔ False := Iff.rfl
@[go_sem] theorem st_inner {t : Nat} : Run T Q (.code (.ghost (.inner t)) :: k) (mkE n L) σ ↔ afterI T Q k (mkE n L) (innerV (if t < n then look L t else .und) σ) := by
 rw [run_ghost]
 simp only [ghostA, mkE_getD]
 generalize (if t < n then look L t else AVal.und) = x
 unfold innerV
 have key : ∀ (o gen : Nat), (match (match σ[o]? with
   | some (.cells nl cs) =>
    if cs.length = gen then
     match deepL (deepA snapDepth) σ cs with
     | some (cs', σ1) =>
      match σ1[o]? with
      | some (.cells _ _) => some (mkE n L, σ1.set o (.cells nl cs'))
      | _ => none
     | none => none
    else none
   | _ => none) with
  | some (e', σ') => Run T Q k e' σ'
  | none => False) ↔ afterI T Q k (mkE n L) (match σ[o]? with
   | some (.cells nl cs) =>
    if cs.length = gen then
     match deepL (deepA snapDepth) σ cs with
     | some (cs', σ1) =>
      match σ1[o]? with
      | some (.cells _ _) => some (σ1.set o (.cells nl cs'))
      | _ => none
     | none => none
    else none
   | _ => none) := by
  intro o gen
  cases σ[o]? with
  | none => exact Iff.rfl
  | some ob =>
   cases ob with
   | cells nl cs =>
    by_cases hc : cs.length = gen
    ·simp only [if_pos hc]
     cases deepL (deepA snapDepth) σ cs with
     | none => exact Iff.rfl
     | some p =>
      obtain ⟨cs', σ1⟩ := p
      simp only
      cases σ1[o]? with
      | none => exact Iff.rfl
      | some ob1 => cases ob1 <;> exact Iff.rfl
    ·simp only [if_neg hc]; exact Iff.rfl
   | _ => exact Iff.rfl
 cases x <;> first | exact Iff.rfl | exact key _ _

def sepV (s : SepC) (n : Nat) (L : List (Nat × AVal)) : Bool := s.ws.all (fun t => (if t < n then look L t else .und).there) && s.ps.all (fun t => (if t < n then look L t else .und).pure) && s.chk.all fun p => p.1.all fun x => p.2.all fun y => (if x < n then look L x else .und).apart (if y < n then look L y else .und)
@[go_sem] theorem st_sep {s : SepC} : Run T Q (.sep s :: k) (mkE n L) σ ↔ sepV s n L = true ∧ Run T Q k (mkE n L) σ := by
 rw [run_sep]
 simp only [sepA, sepV, mkE_getD]
@[go_sem] theorem sepV_mk {ws ps : List Nat} {chk : List (List Nat × List Nat)} : sepV ⟨ws, ps, chk⟩ n L = (ws.all (fun t => (if t < n then look L t else .und).there) && ps.all (fun t => (if t < n then look L t else .und).pure) && chk.all fun p => p.1.all fun x => p.2.all fun y => (if x < n then look L x else .und).apart (if y < n then look L y else .und)) := rfl
@[go_sem] theorem there_ref {o g f l k : Nat} : (AVal.ref o g f l k).there = true := rfl
@[go_sem] theorem there_ptr {o g f : Nat} : (AVal.ptr o g f).there = true := rfl
@[go_sem] theorem there_map {o : Nat} : (AVal.map o).there = true := rfl
theorem names_of_pure {p : Nat → Bool} : ∀ (v : AVal), v.pure = true → v.names p = true := by
 intro v
 refine AVal.rec (motive_1 := fun v => v.names (fun _ => false) = true → v.names p = true) (motive_2 := fun vs => AVal.namesL (fun _ => false) vs = true → AVal.namesL p vs = true)
  ?_ ?_ ?_ ?_ ?_ ?_ ?_ ?_ ?_ ?_ ?_ ?_ ?_ ?_ ?_ ?_ ?_ ?_ ?_ ?_ ?_ ?_ ?_ v <;> intros <;> simp_all [AVal.names, AVal.namesL]
@[go_sem] theorem apart_ref {o g f l k : Nat} {v : AVal} : (AVal.ref o g f l k).apart v = (!v.isUnd && v.names fun q => decide (o ≠ q)) := rfl
@[go_sem] theorem apart_ptr {o g f : Nat} {v : AVal} : (AVal.ptr o g f).apart v = (!v.isUnd && v.names fun q => decide (o ≠ q)) := rfl
@[go_sem] theorem apart_map {o : Nat} {v : AVal} : (AVal.map o).apart v = (!v.isUnd && v.names fun q => decide (o ≠ q)) := rfl
theorem apart_pure {u v : AVal} (h : u.pure = true) (hv : v.isUnd = false) : u.apart v = true := by
 simp only [AVal.apart, hv, Bool.not_false, Bool.true_and]
 exact names_of_pure u h
@[go_sem] theorem apart_int {kd : IntKind} {n : Int} {v : AVal} : (AVal.int kd n).apart v = !v.isUnd := by simp [AVal.apart, AVal.names]
@[go_sem] theorem apart_bool {b : Bool} {v : AVal} : (AVal.bool b).apart v = !v.isUnd := by simp [AVal.apart, AVal.names]
@[go_sem] theorem apart_str {b : ByteArray} {v : AVal} : (AVal.str b).apart v = !v.isUnd := by simp [AVal.apart, AVal.names]
@[go_sem] theorem apart_list {m : Nat} {xs : List AVal} {v : AVal} : (AVal.list m xs).apart v = !v.isUnd := by simp [AVal.apart, AVal.names]
@[go_sem] theorem apart_fptr {xs : List AVal} {v : AVal} : (AVal.fptr xs).apart v = !v.isUnd := by simp [AVal.apart, AVal.names]
@[go_sem] theorem apart_nils {v : AVal} : AVal.nils.apart v = !v.isUnd := by simp [AVal.apart, AVal.names]

theorem deepA_pure {m : Nat} {v : AVal} (h : v.pure = true) : deepA (m + 1) σ v = some (v, σ) := by simp only [deepA, h, if_true]
@[go_sem] theorem deepA_pure' {v : AVal} (h : v.pure = true) : deepA snapDepth σ v = some (v, σ) := deepA_pure (m := 63) h
theorem deepL_pure {m : Nat} : ∀ {cs : List AVal}, AVal.pures cs = true → deepL (deepA (m + 1)) σ cs = some (cs, σ)
 | [], _ => rfl
 | x :: xs, h => by
  simp only [AVal.pures, AVal.namesL, Bool.and_eq_true] at h
  simp only [deepL, deepA_pure h.1, deepL_pure h.2]
@[go_sem] theorem deepL_pure' {cs : List AVal} (h : AVal.pures cs = true) : deepL (deepA snapDepth) σ cs = some (cs, σ) := deepL_pure (m := 63) h
theorem deepL_append {f : Sto → AVal → Option (AVal × Sto)} : ∀ {σ : Sto} {xs ys : List AVal}, deepL f σ (xs ++ ys) = (match deepL f σ xs with
  | some (xs', σ1) => (match deepL f σ1 ys with
   | some (ys', σ2) => some (xs' ++ ys', σ2)
   | none => none)
  | none => none)
 | σ, [], ys => by
  simp only [List.nil_append, deepL]
  cases deepL f σ ys <;> rfl
 | σ, x :: xs, ys => by
  simp only [List.cons_append, deepL]
  cases f σ x with
  | none => rfl
  | some p =>
   obtain ⟨x', σ1⟩ := p
   simp only [deepL_append (σ := σ1) (xs := xs) (ys := ys)]
   cases deepL f σ1 xs with
   | none => rfl
   | some p =>
    obtain ⟨xs', σ2⟩ := p
    simp only
    cases deepL f σ2 ys <;> rfl

end
end Go.Abs
/- The functions of the program as terms of the abstract machine, printed by wip/gen/gen.py, with marks. -/
namespace Go.Abs
open Go
def i_l40_JoinMatchesReference : FuncId := 3
def i_X6 : FuncId := 4
def i_l40_JoinPartners : FuncId := 5
def i_l40_JoinParts : FuncId := 7
def i_X14 : FuncId := 9
def i_l40_small : FuncId := 10
def i_l40_repeated : FuncId := 11
def i_X36 : FuncId := 12
def i_X49 : FuncId := 13
def i_X50 : FuncId := 14
def i_X29 : FuncId := 15
def i_r40_NestedIn : FuncId := 16
def i_X44 : FuncId := 17
def i_X30 : FuncId := 18
def i_r40_MergeIn : FuncId := 19
def i_X45 : FuncId := 20
def i_r40_SemiIn : FuncId := 21
def i_X47 : FuncId := 22
def i_r40_AntiIn : FuncId := 23
def i_X39 : FuncId := 24
def i_r40_OuterIn : FuncId := 25
def i_X43 : FuncId := 26
def i_X32 : FuncId := 27
def i_X48 : FuncId := 28
def i_X15 : FuncId := 29
def i_X55 : FuncId := 31
def i_X53 : FuncId := 32
def i_X52 : FuncId := 33
def i_X21 : FuncId := 34
def i_r40_fit : FuncId := 35
def i_r40_Partners : FuncId := 36
def i_X37 : FuncId := 37
def i_X27 : FuncId := 38
def i_X38 : FuncId := 39
def i_r40_some : FuncId := 40
def i_X34 : FuncId := 41
def i_X31 : FuncId := 42
def i_X54 : FuncId := 43
def i_X24 : FuncId := 44
def i_X46 : FuncId := 48
def i_X51 : FuncId := 49
def i_X20 : FuncId := 50
def i_X35 : FuncId := 51
def i_r40_Has : FuncId := 52
def i_X26 : FuncId := 53
def i_X16 : FuncId := 54
def i_X11 : FuncId := 55
def i_X33 : FuncId := 56
def i_X0 : FuncId := 57
def i_X25 : FuncId := 58
def i_X40 : FuncId := 59
def i_r40_partner : FuncId := 60
def i_X42 : FuncId := 61
def i_X23 : FuncId := 62
def i_X28 : FuncId := 68
def i_X1 : FuncId := 69
def i_X18 : FuncId := 70
def i_X41 : FuncId := 71
def i_X22 : FuncId := 72
def i_X12 : FuncId := 73
def i_X19 : FuncId := 74
def i_X5 : FuncId := 75
def i_X10 : FuncId := 76
def i_X9 : FuncId := 77
def i_X7 : FuncId := 78
def i_X17 : FuncId := 79
def i_X2 : FuncId := 83
def i_X3 : FuncId := 84
def i_X4 : FuncId := 85
def i_X13 : FuncId := 86
def i_X8 : FuncId := 87
def X6.c0 : ACode := (.seq (.region true [
 ⟨some 67, .faddr 0 (.tmp 4), none, [], [4]⟩,
 ⟨some 68, .load false 1 (.tmp 67), none, [0], [67]⟩,
 ⟨some 69, .faddr 1 (.tmp 4), none, [], [4]⟩,
 ⟨some 70, .load false 1 (.tmp 69), none, [2], [69]⟩,
 ⟨some 71, .faddr 2 (.tmp 4), none, [], [4]⟩,
 ⟨some 72, .load true 2 (.tmp 71), none, [4], [71]⟩,
 ⟨some 73, .call true i_X44 [(.tmp 68), (.tmp 70), (.tmp 72)], none, [1, 3, 5], [68, 70, 72]⟩,
 ⟨some 74, .faddr 0 (.tmp 4), none, [], [4]⟩,
 ⟨some 75, .load false 1 (.tmp 74), none, [7], [74]⟩,
 ⟨some 76, .faddr 1 (.tmp 4), none, [], [4]⟩,
 ⟨some 77, .load false 1 (.tmp 76), none, [9], [76]⟩,
 ⟨some 78, .faddr 2 (.tmp 4), none, [], [4]⟩,
 ⟨some 79, .load true 2 (.tmp 78), none, [11], [78]⟩,
 ⟨some 80, .call true i_X29 [(.tmp 75), (.tmp 77), (.tmp 79)], none, [8, 10, 12, 6], [75, 77, 79]⟩,
 ⟨some 81, .call true i_X50 [(.tmp 73), (.tmp 80)], none, [6, 13, 13], [73, 80]⟩,
 ⟨some 82, .mv (.tmp 81), none, [14, 14], [81]⟩,
 ⟨some 83, .mv (.tmp 5), (some ((some 82), true)), [15], [5]⟩,
 ⟨some 84, .mv (.tmp 6), (some ((some 82), true)), [15], [6]⟩,
 ⟨some 85, .faddr 2 (.tmp 4), (some ((some 82), true)), [15], [4]⟩,
 ⟨some 86, .load true 2 (.tmp 85), (some ((some 82), true)), [18, 15], [85]⟩,
 ⟨some 87, .call true i_X30 [(.tmp 83), (.tmp 84), (.tmp 86)], (some ((some 82), true)), [16, 17, 19, 15, 15], [83, 84, 86]⟩,
 ⟨some 88, .mv (.tmp 5), (some ((some 82), true)), [15], [5]⟩,
 ⟨some 89, .mv (.tmp 6), (some ((some 82), true)), [15], [6]⟩,
 ⟨some 90, .faddr 2 (.tmp 4), (some ((some 82), true)), [15], [4]⟩,
 ⟨some 91, .load true 2 (.tmp 90), (some ((some 82), true)), [23, 15], [90]⟩,
 ⟨some 92, .call true i_X29 [(.tmp 88), (.tmp 89), (.tmp 91)], (some ((some 82), true)), [21, 22, 24, 20, 15], [88, 89, 91]⟩,
 ⟨some 93, .call true i_X50 [(.tmp 87), (.tmp 92)], (some ((some 82), true)), [20, 25, 25, 15], [87, 92]⟩,
 ⟨some 94, .pick (.tmp 82) (.tmp 93) (.cst (.bool false)), none, [15, 26], [82, 93]⟩,
 ⟨some 95, .mv (.tmp 94), none, [27, 26], [94]⟩,
 ⟨some 96, .mv (.tmp 5), (some ((some 95), true)), [28], [5]⟩,
 ⟨some 97, .mv (.tmp 6), (some ((some 95), true)), [28], [6]⟩,
 ⟨some 98, .faddr 2 (.tmp 4), (some ((some 95), true)), [28], [4]⟩,
 ⟨some 99, .load true 2 (.tmp 98), (some ((some 95), true)), [31, 28], [98]⟩,
 ⟨some 100, .call true i_X44 [(.tmp 96), (.tmp 97), (.tmp 99)], (some ((some 95), true)), [29, 30, 32, 28, 28], [96, 97, 99]⟩,
 ⟨some 101, .mv (.tmp 5), (some ((some 95), true)), [28], [5]⟩,
 ⟨some 102, .mv (.tmp 6), (some ((some 95), true)), [28], [6]⟩,
 ⟨some 103, .faddr 2 (.tmp 4), (some ((some 95), true)), [28], [4]⟩,
 ⟨some 104, .load true 2 (.tmp 103), (some ((some 95), true)), [36, 28], [103]⟩,
 ⟨some 105, .call true i_X29 [(.tmp 101), (.tmp 102), (.tmp 104)], (some ((some 95), true)), [34, 35, 37, 33, 28], [101, 102, 104]⟩,
 ⟨some 106, .call true i_X50 [(.tmp 100), (.tmp 105)], (some ((some 95), true)), [33, 38, 38, 28], [100, 105]⟩,
 ⟨some 107, .pick (.tmp 95) (.tmp 106) (.cst (.bool false)), none, [28, 39], [95, 106]⟩,
 ⟨some 108, .mv (.tmp 107), none, [40, 39], [107]⟩,
 ⟨some 109, .mv (.tmp 3), (some ((some 108), true)), [41], [3]⟩,
 ⟨some 110, .pick (.tmp 108) (.tmp 109) (.cst (.bool false)), none, [41, 42], [108, 109]⟩,
 ⟨some 2, .mv (.tmp 110), none, [43, 41, 0, 1, 2, 3, 4, 5, 6, 7, 8, 9, 10, 11, 12, 13, 14, 15, 16, 17, 18, 19, 20, 21, 22, 23, 24, 25, 26, 27, 28, 29, 30, 31, 32, 33, 34, 35, 36, 37, 38, 39, 40, 41, 42, 43], [110]⟩])
 .ret)
def X6.main : ACode := (.seq (.seq (.region false [
 ⟨some 1, .box 6 (.tmp 0), none, [], []⟩,
 ⟨some 2, .mv (.cst (.bool false)), none, [], []⟩])
 (.ghost (.kill [0, 2])))
 (.seq (.seq (.region false [
 ⟨some 8, .call true i_X14 [], none, [], []⟩,
 ⟨some 3, .mv (.tmp 8), none, [], []⟩])
 (.ghost (.kill [8])))
 (.seq (.seq (.seq (.region false [
 ⟨some 9, .mv (.tmp 3), none, [], []⟩,
 ⟨some 10, .un .not (.tmp 9), none, [], []⟩])
 (.ghost (.kill [9])))
 (.cond (.tmp 10) (.seq (.region false [
   ⟨some 2, .mv (.cst (.bool false)), none, [], []⟩])
  .ret)
 .skip))
 (.seq (.seq (.region false [
 ⟨some 11, .load true 6 (.tmp 1), none, [], []⟩,
 ⟨some 12, .call true i_X49 [(.tmp 11)], none, [], []⟩,
 ⟨some 4, .alloc [.nils, .nils, (.int .i64 0), (.int .i64 0)], none, [], []⟩,
 ⟨none, .store 4 (.tmp 4) (.tmp 12), none, [], []⟩])
 (.ghost (.kill [1, 10, 11, 12])))
 (.seq (.seq (.region true [
 ⟨some 13, .faddr 0 (.tmp 4), none, [], [4]⟩,
 ⟨some 14, .load false 1 (.tmp 13), none, [0], [13]⟩,
 ⟨some 15, .faddr 2 (.tmp 4), none, [], [4]⟩,
 ⟨some 16, .iaddrA 2 1 (.tmp 15) (.cst (.int .i64 0)), none, [2], [15]⟩,
 ⟨some 17, .load false 1 (.tmp 16), none, [3], [16]⟩,
 ⟨some 18, .call true i_X43 [(.tmp 14), (.tmp 17)], none, [1, 4], [14, 17]⟩,
 ⟨some 19, .faddr 1 (.tmp 4), none, [], [4]⟩,
 ⟨some 20, .load false 1 (.tmp 19), none, [6], [19]⟩,
 ⟨some 21, .faddr 2 (.tmp 4), none, [], [4]⟩,
 ⟨some 22, .iaddrA 2 1 (.tmp 21) (.cst (.int .i64 1)), none, [8], [21]⟩,
 ⟨some 23, .load false 1 (.tmp 22), none, [9], [22]⟩,
 ⟨some 24, .call true i_X43 [(.tmp 20), (.tmp 23)], none, [7, 10, 5], [20, 23]⟩,
 ⟨some 5, .mv (.tmp 18), none, [5, 11, 0, 1, 2, 3, 4, 5], [18]⟩,
 ⟨some 6, .mv (.tmp 24), none, [11, 12, 0, 1, 2, 3, 4, 5, 6, 7, 8, 9, 10, 11, 12], [24]⟩])
 (.ghost (.kill [13, 14, 15, 16, 17, 18, 19, 20, 21, 22, 23, 24])))
 (.seq (.seq (.region false [
 ⟨some 25, .faddr 0 (.tmp 4), none, [], []⟩,
 ⟨some 26, .load false 1 (.tmp 25), none, [], []⟩,
 ⟨some 27, .faddr 1 (.tmp 4), none, [], []⟩,
 ⟨some 28, .load false 1 (.tmp 27), none, [], []⟩,
 ⟨some 29, .faddr 2 (.tmp 4), none, [], []⟩,
 ⟨some 30, .load true 2 (.tmp 29), none, [], []⟩,
 ⟨some 31, .call true i_X30 [(.tmp 26), (.tmp 28), (.tmp 30)], none, [], []⟩,
 ⟨some 7, .alloc [.nils, (.int .i64 0)], none, [], []⟩,
 ⟨none, .store 2 (.tmp 7) (.tmp 31), none, [], []⟩])
 (.ghost (.kill [25, 26, 27, 28, 29, 30, 31])))
 (.seq (.seq (.seq (.region false [
 ⟨some 32, .faddr 0 (.tmp 4), none, [], []⟩,
 ⟨some 33, .load false 1 (.tmp 32), none, [], []⟩,
 ⟨some 34, .faddr 2 (.tmp 4), none, [], []⟩,
 ⟨some 35, .iaddrA 2 1 (.tmp 34) (.cst (.int .i64 0)), none, [], []⟩,
 ⟨some 36, .load false 1 (.tmp 35), none, [], []⟩,
 ⟨some 37, .call true i_X32 [(.tmp 33), (.tmp 36)], none, [], []⟩,
 ⟨some 38, .un .not (.tmp 37), none, [], []⟩,
 ⟨some 39, .mv (.tmp 38), none, [], []⟩,
 ⟨some 40, .faddr 1 (.tmp 4), (some ((some 39), false)), [], []⟩,
 ⟨some 41, .load false 1 (.tmp 40), (some ((some 39), false)), [], []⟩,
 ⟨some 42, .faddr 2 (.tmp 4), (some ((some 39), false)), [], []⟩,
 ⟨some 43, .iaddrA 2 1 (.tmp 42) (.cst (.int .i64 1)), (some ((some 39), false)), [], []⟩,
 ⟨some 44, .load false 1 (.tmp 43), (some ((some 39), false)), [], []⟩,
 ⟨some 45, .call true i_X32 [(.tmp 41), (.tmp 44)], (some ((some 39), false)), [], []⟩,
 ⟨some 46, .un .not (.tmp 45), (some ((some 39), false)), [], []⟩,
 ⟨some 47, .pick (.tmp 39) (.cst (.bool true)) (.tmp 46), none, [], []⟩])
 (.ghost (.kill [32, 33, 34, 35, 36, 37, 38, 39, 40, 41, 42, 43, 44, 45, 46])))
 (.seq (.cond (.tmp 47) (.seq (.seq (.region false [
   ⟨some 48, .faddr 1 (.tmp 7), none, [], []⟩,
   ⟨some 49, .load false 1 (.tmp 48), none, [], []⟩,
   ⟨some 50, .bin .neq (.tmp 49) (.cst (.int .i64 1)), none, [], []⟩,
   ⟨some 51, .mv (.tmp 50), none, [], []⟩,
   ⟨some 52, .faddr 0 (.tmp 7), (some ((some 51), false)), [], []⟩,
   ⟨some 53, .load false 1 (.tmp 52), (some ((some 51), false)), [], []⟩,
   ⟨some 54, .len .sl (.tmp 53), (some ((some 51), false)), [], []⟩,
   ⟨some 55, .bin .gtr (.tmp 54) (.cst (.int .i64 0)), (some ((some 51), false)), [], []⟩,
   ⟨some 56, .pick (.tmp 51) (.cst (.bool true)) (.tmp 55), none, [], []⟩])
  (.ghost (.kill [7, 47, 48, 49, 50, 51, 52, 53, 54, 55])))
  (.cond (.tmp 56) (.seq (.region false [
    ⟨some 2, .mv (.cst (.bool false)), none, [], []⟩])
   .ret)
  .skip))
 (.seq (.seq (.region true [
   ⟨some 57, .load true 2 (.tmp 7), none, [], [7]⟩,
   ⟨some 58, .faddr 0 (.tmp 4), none, [], [4]⟩,
   ⟨some 59, .load false 1 (.tmp 58), none, [1], [58]⟩,
   ⟨some 60, .faddr 1 (.tmp 4), none, [], [4]⟩,
   ⟨some 61, .load false 1 (.tmp 60), none, [3], [60]⟩,
   ⟨some 62, .faddr 2 (.tmp 4), none, [], [4]⟩,
   ⟨some 63, .load true 2 (.tmp 62), none, [5], [62]⟩,
   ⟨some 64, .call true i_X29 [(.tmp 59), (.tmp 61), (.tmp 63)], none, [2, 4, 6], [59, 61, 63]⟩,
   ⟨some 65, .call true i_X50 [(.tmp 57), (.tmp 64)], none, [0, 7, 7], [57, 64]⟩,
   ⟨some 66, .un .not (.tmp 65), none, [8], [65]⟩])
  (.ghost (.kill [7, 47, 57, 58, 59, 60, 61, 62, 63, 64, 65])))
  (.cond (.tmp 66) (.seq (.region false [
    ⟨some 2, .mv (.cst (.bool false)), none, [], []⟩])
   .ret)
  .skip)))
 (.ghost (.kill [56, 66]))))
 X6.c0)))))))
def X6 : AFunc := ⟨111, [.tmp 2], X6.main, false⟩
def X14.main : ACode := (.seq (.seq (.region false [
 ⟨some 0, .mv (.cst (.bool false)), none, [], []⟩])
 (.ghost (.kill [0])))
 (.seq (.seq (.region false [
 ⟨some 8, .call true i_X36 [(.cst (.int .i64 1))], none, [], []⟩,
 ⟨some 9, .call true i_X36 [(.cst (.int .i64 2))], none, [], []⟩,
 ⟨some 1, .alloc [(.int .i64 0), (.int .i64 0), (.str ⟨#[]⟩)], none, [], []⟩,
 ⟨some 2, .alloc [(.int .i64 0), (.int .i64 0), (.str ⟨#[]⟩)], none, [], []⟩,
 ⟨none, .store 3 (.tmp 1) (.tmp 8), none, [], []⟩,
 ⟨none, .store 3 (.tmp 2) (.tmp 9), none, [], []⟩])
 (.ghost (.kill [8, 9])))
 (.seq (.seq (.region true [
 ⟨some 10, .load true 3 (.tmp 1), none, [], [1]⟩,
 ⟨some 11, .call true i_X55 [(.cst (.str ⟨#[97]⟩))], none, [], []⟩,
 ⟨some 12, .flist 3 2 [(.int .i64 0), (.int .i64 0), (.str ⟨#[]⟩)] [(0, (.tmp 10)), (1, (.tmp 11))], none, [0, 1], [10, 11]⟩,
 ⟨some 13, .load true 3 (.tmp 2), none, [], [2]⟩,
 ⟨some 14, .call true i_X55 [(.cst (.str ⟨#[98]⟩))], none, [1], []⟩,
 ⟨some 15, .flist 3 2 [(.int .i64 0), (.int .i64 0), (.str ⟨#[]⟩)] [(0, (.tmp 13)), (1, (.tmp 14))], none, [3, 4], [13, 14]⟩,
 ⟨some 16, .build [(.int .i64 0), (.int .i64 0), (.str ⟨#[]⟩)] [], none, [], []⟩,
 ⟨some 17, .call true i_X55 [(.cst (.str ⟨#[99]⟩))], none, [4], []⟩,
 ⟨some 18, .flist 3 2 [(.int .i64 0), (.int .i64 0), (.str ⟨#[]⟩)] [(0, (.tmp 16)), (1, (.tmp 17))], none, [6, 7], [16, 17]⟩,
 ⟨some 19, .flist 1 3 [.nils] [(0, (.tmp 12)), (1, (.tmp 15)), (2, (.tmp 18))], none, [2, 5, 8], [12, 15, 18]⟩,
 ⟨some 3, .mv (.tmp 19), none, [9, 7, 0, 1, 2, 3, 4, 5, 6, 7, 8, 9], [19]⟩])
 (.ghost (.kill [10, 11, 12, 13, 14, 15, 16, 17, 18, 19])))
 (.seq (.seq (.region true [
 ⟨some 20, .load true 3 (.tmp 2), none, [], [2]⟩,
 ⟨some 21, .call true i_X36 [(.cst (.int .i64 7))], none, [], []⟩,
 ⟨some 22, .flist 3 2 [(.int .i64 0), (.int .i64 0), (.str ⟨#[]⟩)] [(0, (.tmp 20)), (1, (.tmp 21))], none, [0, 1], [20, 21]⟩,
 ⟨some 23, .load true 3 (.tmp 2), none, [], [2]⟩,
 ⟨some 24, .call true i_X36 [(.cst (.int .i64 8))], none, [1], []⟩,
 ⟨some 25, .flist 3 2 [(.int .i64 0), (.int .i64 0), (.str ⟨#[]⟩)] [(0, (.tmp 23)), (1, (.tmp 24))], none, [3, 4], [23, 24]⟩,
 ⟨some 26, .build [(.int .i64 0), (.int .i64 0), (.str ⟨#[]⟩)] [], none, [], []⟩,
 ⟨some 27, .call true i_X36 [(.cst (.int .i64 9))], none, [4], []⟩,
 ⟨some 28, .flist 3 2 [(.int .i64 0), (.int .i64 0), (.str ⟨#[]⟩)] [(0, (.tmp 26)), (1, (.tmp 27))], none, [6, 7], [26, 27]⟩,
 ⟨some 29, .flist 1 3 [.nils] [(0, (.tmp 22)), (1, (.tmp 25)), (2, (.tmp 28))], none, [2, 5, 8], [22, 25, 28]⟩,
 ⟨some 4, .mv (.tmp 29), none, [9, 7, 0, 1, 2, 3, 4, 5, 6, 7, 8, 9], [29]⟩])
 (.ghost (.kill [20, 21, 22, 23, 24, 25, 26, 27, 28, 29])))
 (.seq (.seq (.region true [
 ⟨some 30, .load true 3 (.tmp 2), none, [], [2]⟩,
 ⟨some 31, .call true i_X55 [(.cst (.str ⟨#[98]⟩))], none, [], []⟩,
 ⟨some 32, .load true 3 (.tmp 2), none, [], [2]⟩,
 ⟨some 33, .call true i_X36 [(.cst (.int .i64 7))], none, [1], []⟩,
 ⟨some 34, .flist 3 4 [(.int .i64 0), (.int .i64 0), (.str ⟨#[]⟩)] [(0, (.tmp 30)), (1, (.tmp 31)), (2, (.tmp 32)), (3, (.tmp 33))], none, [0, 1, 2, 3], [30, 31, 32, 33]⟩,
 ⟨some 35, .load true 3 (.tmp 2), none, [], [2]⟩,
 ⟨some 36, .call true i_X55 [(.cst (.str ⟨#[98]⟩))], none, [3], []⟩,
 ⟨some 37, .load true 3 (.tmp 2), none, [], [2]⟩,
 ⟨some 38, .call true i_X36 [(.cst (.int .i64 8))], none, [6], []⟩,
 ⟨some 39, .flist 3 4 [(.int .i64 0), (.int .i64 0), (.str ⟨#[]⟩)] [(0, (.tmp 35)), (1, (.tmp 36)), (2, (.tmp 37)), (3, (.tmp 38))], none, [5, 6, 7, 8], [35, 36, 37, 38]⟩,
 ⟨some 40, .flist 1 2 [.nils] [(0, (.tmp 34)), (1, (.tmp 39))], none, [4, 9], [34, 39]⟩,
 ⟨some 41, .build [.nils, (.int .i64 0)] [(0, 1, (.tmp 40))], none, [10], [40]⟩,
 ⟨some 5, .alloc [.nils, (.int .i64 0)], none, [], []⟩,
 ⟨none, .store 2 (.tmp 5) (.tmp 41), none, [12, 11, 8, 0, 1, 2, 3, 4, 5, 6, 7, 8, 9, 10, 11, 12], [5, 41]⟩])
 (.ghost (.kill [2, 30, 31, 32, 33, 34, 35, 36, 37, 38, 39, 40, 41])))
 (.seq (.seq (.region false [
 ⟨some 42, .build [(.int .i64 0), (.int .i64 0)] [(0, 1, (.cst (.int .i64 0))), (1, 1, (.cst (.int .i64 0)))], none, [], []⟩,
 ⟨some 6, .alloc [(.int .i64 0), (.int .i64 0)], none, [], []⟩,
 ⟨none, .store 2 (.tmp 6) (.tmp 42), none, [], []⟩])
 (.ghost (.kill [42])))
 (.seq (.seq (.region false [
 ⟨some 43, .mv (.tmp 3), none, [], []⟩,
 ⟨some 44, .mv (.tmp 4), none, [], []⟩,
 ⟨some 45, .build [.nils, .nils, (.int .i64 0), (.int .i64 0)] [(0, 1, (.tmp 43)), (1, 1, (.tmp 44))], none, [], []⟩,
 ⟨some 46, .call true i_X39 [(.tmp 45), (.cst (.int .i64 2))], none, [], []⟩,
 ⟨some 7, .alloc [.nils, (.int .i64 0)], none, [], []⟩,
 ⟨none, .store 2 (.tmp 7) (.tmp 46), none, [], []⟩])
 (.ghost (.kill [43, 44, 45, 46])))
 (.seq (.region true [
 ⟨some 47, .mv (.tmp 3), none, [], [3]⟩,
 ⟨some 48, .mv (.tmp 4), none, [], [4]⟩,
 ⟨some 49, .load true 2 (.tmp 6), none, [], [6]⟩,
 ⟨some 50, .call true i_X29 [(.tmp 47), (.tmp 48), (.tmp 49)], none, [0, 1, 2], [47, 48, 49]⟩,
 ⟨some 51, .load true 2 (.tmp 5), none, [], [5]⟩,
 ⟨some 52, .call true i_X50 [(.tmp 50), (.tmp 51)], none, [3, 4, 3], [50, 51]⟩,
 ⟨some 53, .mv (.tmp 52), none, [5, 5], [52]⟩,
 ⟨some 54, .mv (.tmp 3), (some ((some 53), true)), [6], [3]⟩,
 ⟨some 55, .mv (.tmp 4), (some ((some 53), true)), [6], [4]⟩,
 ⟨some 56, .load true 2 (.tmp 6), (some ((some 53), true)), [6], [6]⟩,
 ⟨some 57, .call true i_X44 [(.tmp 54), (.tmp 55), (.tmp 56)], (some ((some 53), true)), [7, 8, 9, 6, 6], [54, 55, 56]⟩,
 ⟨some 58, .load true 2 (.tmp 5), (some ((some 53), true)), [6], [5]⟩,
 ⟨some 59, .call true i_X50 [(.tmp 57), (.tmp 58)], (some ((some 53), true)), [10, 11, 10, 6], [57, 58]⟩,
 ⟨some 60, .pick (.tmp 53) (.tmp 59) (.cst (.bool false)), none, [6, 12], [53, 59]⟩,
 ⟨some 61, .mv (.tmp 60), none, [13, 12], [60]⟩,
 ⟨some 62, .mv (.tmp 3), (some ((some 61), true)), [14], [3]⟩,
 ⟨some 63, .mv (.tmp 4), (some ((some 61), true)), [14], [4]⟩,
 ⟨some 64, .load true 2 (.tmp 6), (some ((some 61), true)), [14], [6]⟩,
 ⟨some 65, .call true i_X30 [(.tmp 62), (.tmp 63), (.tmp 64)], (some ((some 61), true)), [15, 16, 17, 14, 14], [62, 63, 64]⟩,
 ⟨some 66, .field 1 1 false (.tmp 65), (some ((some 61), true)), [18, 14], [65]⟩,
 ⟨some 67, .bin .eql (.tmp 66) (.cst (.int .i64 1)), (some ((some 61), true)), [19, 14], [66]⟩,
 ⟨some 68, .pick (.tmp 61) (.tmp 67) (.cst (.bool false)), none, [14, 20], [61, 67]⟩,
 ⟨some 69, .mv (.tmp 68), none, [21, 18], [68]⟩,
 ⟨some 70, .mv (.tmp 3), (some ((some 69), true)), [22], [3]⟩,
 ⟨some 71, .slice 1 (.tmp 70) none (some (.cst (.int .i64 2))) none, (some ((some 69), true)), [23, 22], [70]⟩,
 ⟨some 72, .mv (.tmp 4), (some ((some 69), true)), [22], [4]⟩,
 ⟨some 73, .slice 1 (.tmp 72) none (some (.cst (.int .i64 2))) none, (some ((some 69), true)), [25, 22], [72]⟩,
 ⟨some 74, .load true 2 (.tmp 6), (some ((some 69), true)), [22], [6]⟩,
 ⟨some 75, .call true i_X30 [(.tmp 71), (.tmp 73), (.tmp 74)], (some ((some 69), true)), [24, 26, 27, 22, 22], [71, 73, 74]⟩,
 ⟨some 76, .load true 2 (.tmp 5), (some ((some 69), true)), [22], [5]⟩,
 ⟨some 77, .call true i_X50 [(.tmp 75), (.tmp 76)], (some ((some 69), true)), [28, 29, 28, 22], [75, 76]⟩,
 ⟨some 78, .pick (.tmp 69) (.tmp 77) (.cst (.bool false)), none, [22, 30], [69, 77]⟩,
 ⟨some 79, .mv (.tmp 78), none, [31, 30], [78]⟩,
 ⟨some 80, .mv (.tmp 3), (some ((some 79), true)), [32], [3]⟩,
 ⟨some 81, .mv (.tmp 4), (some ((some 79), true)), [32], [4]⟩,
 ⟨some 82, .load true 2 (.tmp 6), (some ((some 79), true)), [32], [6]⟩,
 ⟨some 83, .call true i_X47 [(.tmp 80), (.tmp 81), (.tmp 82)], (some ((some 79), true)), [33, 34, 35, 32, 32], [80, 81, 82]⟩,
 ⟨some 84, .mv (.tmp 3), (some ((some 79), true)), [32], [3]⟩,
 ⟨some 85, .iaddr 1 (.tmp 84) (.cst (.int .i64 0)), (some ((some 79), true)), [37, 32], [84]⟩,
 ⟨some 86, .load false 1 (.tmp 85), (some ((some 79), true)), [38, 32], [85]⟩,
 ⟨some 87, .mv (.tmp 3), (some ((some 79), true)), [32], [3]⟩,
 ⟨some 88, .iaddr 1 (.tmp 87) (.cst (.int .i64 2)), (some ((some 79), true)), [40, 32], [87]⟩,
 ⟨some 89, .load false 1 (.tmp 88), (some ((some 79), true)), [41, 32], [88]⟩,
 ⟨some 90, .flist 1 2 [.nils] [(0, (.tmp 86)), (1, (.tmp 89))], (some ((some 79), true)), [39, 42, 32], [86, 89]⟩,
 ⟨some 91, .build [.nils, (.int .i64 0)] [(0, 1, (.tmp 90))], (some ((some 79), true)), [43, 32], [90]⟩,
 ⟨some 92, .call true i_X50 [(.tmp 83), (.tmp 91)], (some ((some 79), true)), [36, 44, 36, 32], [83, 91]⟩,
 ⟨some 93, .pick (.tmp 79) (.tmp 92) (.cst (.bool false)), none, [32, 45], [79, 92]⟩,
 ⟨some 94, .mv (.tmp 93), none, [46, 45], [93]⟩,
 ⟨some 95, .mv (.tmp 3), (some ((some 94), true)), [47], [3]⟩,
 ⟨some 96, .mv (.tmp 4), (some ((some 94), true)), [47], [4]⟩,
 ⟨some 97, .load true 2 (.tmp 6), (some ((some 94), true)), [47], [6]⟩,
 ⟨some 98, .call true i_X45 [(.tmp 95), (.tmp 96), (.tmp 97)], (some ((some 94), true)), [48, 49, 50, 47, 47], [95, 96, 97]⟩,
 ⟨some 99, .mv (.tmp 3), (some ((some 94), true)), [47], [3]⟩,
 ⟨some 100, .slice 1 (.tmp 99) (some (.cst (.int .i64 1))) (some (.cst (.int .i64 2))) none, (some ((some 94), true)), [52, 47], [99]⟩,
 ⟨some 101, .build [.nils, (.int .i64 0)] [(0, 1, (.tmp 100))], (some ((some 94), true)), [53, 47], [100]⟩,
 ⟨some 102, .call true i_X50 [(.tmp 98), (.tmp 101)], (some ((some 94), true)), [51, 54, 51, 47], [98, 101]⟩,
 ⟨some 103, .pick (.tmp 94) (.tmp 102) (.cst (.bool false)), none, [47, 55], [94, 102]⟩,
 ⟨some 104, .mv (.tmp 103), none, [56, 55], [103]⟩,
 ⟨some 105, .faddr 0 (.tmp 7), (some ((some 104), true)), [57], [7]⟩,
 ⟨some 106, .load false 1 (.tmp 105), (some ((some 104), true)), [58, 57], [105]⟩,
 ⟨some 107, .len .sl (.tmp 106), (some ((some 104), true)), [59, 57], [106]⟩,
 ⟨some 108, .bin .eql (.tmp 107) (.cst (.int .i64 4)), (some ((some 104), true)), [60, 57], [107]⟩,
 ⟨some 109, .pick (.tmp 104) (.tmp 108) (.cst (.bool false)), none, [57, 61], [104, 108]⟩,
 ⟨some 110, .mv (.tmp 109), none, [62, 57], [109]⟩,
 ⟨some 111, .faddr 0 (.tmp 7), (some ((some 110), true)), [63], [7]⟩,
 ⟨some 112, .load false 1 (.tmp 111), (some ((some 110), true)), [64, 63], [111]⟩,
 ⟨some 113, .iaddr 1 (.tmp 112) (.cst (.int .i64 0)), (some ((some 110), true)), [65, 63], [112]⟩,
 ⟨some 114, .load false 1 (.tmp 113), (some ((some 110), true)), [66, 63], [113]⟩,
 ⟨some 115, .load true 3 (.tmp 1), (some ((some 110), true)), [63], [1]⟩,
 ⟨some 116, .call true i_X55 [(.cst (.str ⟨#[97]⟩))], (some ((some 110), true)), [63, 63], []⟩,
 ⟨some 117, .build [(.int .i64 0), (.int .i64 0), (.str ⟨#[]⟩)] [], (some ((some 110), true)), [63], []⟩,
 ⟨some 118, .build [(.int .i64 0), (.int .i64 0), (.str ⟨#[]⟩)] [], (some ((some 110), true)), [63], []⟩,
 ⟨some 119, .flist 3 4 [(.int .i64 0), (.int .i64 0), (.str ⟨#[]⟩)] [(0, (.tmp 115)), (1, (.tmp 116)), (2, (.tmp 117)), (3, (.tmp 118))], (some ((some 110), true)), [68, 69, 70, 71, 63], [115, 116, 117, 118]⟩,
 ⟨some 120, .call true i_X48 [(.tmp 114), (.tmp 119)], (some ((some 110), true)), [67, 72, 69, 63], [114, 119]⟩,
 ⟨some 121, .pick (.tmp 110) (.tmp 120) (.cst (.bool false)), none, [63, 73], [110, 120]⟩,
 ⟨some 122, .mv (.tmp 121), none, [74, 73], [121]⟩,
 ⟨some 123, .mv (.tmp 3), (some ((some 122), true)), [75], [3]⟩,
 ⟨some 124, .mv (.tmp 4), (some ((some 122), true)), [75], [4]⟩,
 ⟨some 125, .build [(.int .i64 0), (.int .i64 0)] [(0, 1, (.cst (.int .i64 0))), (1, 1, (.cst (.int .i64 2)))], (some ((some 122), true)), [75], []⟩,
 ⟨some 126, .call true i_X29 [(.tmp 123), (.tmp 124), (.tmp 125)], (some ((some 122), true)), [76, 77, 78, 75, 75], [123, 124, 125]⟩,
 ⟨some 127, .field 1 1 false (.tmp 126), (some ((some 122), true)), [79, 75], [126]⟩,
 ⟨some 128, .bin .eql (.tmp 127) (.cst (.int .i64 1)), (some ((some 122), true)), [80, 75], [127]⟩,
 ⟨some 129, .pick (.tmp 122) (.tmp 128) (.cst (.bool false)), none, [75, 81], [122, 128]⟩,
 ⟨some 130, .mv (.tmp 129), none, [82, 79], [129]⟩,
 ⟨some 131, .mv (.tmp 3), (some ((some 130), true)), [83], [3]⟩,
 ⟨some 132, .mv (.tmp 4), (some ((some 130), true)), [83], [4]⟩,
 ⟨some 133, .build [.nils, .nils, (.int .i64 0), (.int .i64 0)] [(0, 1, (.tmp 131)), (1, 1, (.tmp 132))], (some ((some 130), true)), [84, 85, 83], [131, 132]⟩,
 ⟨some 134, .call true i_X39 [(.tmp 133), (.cst (.int .i64 33))], (some ((some 130), true)), [86, 83, 83], [133]⟩,
 ⟨some 135, .field 1 1 false (.tmp 134), (some ((some 130), true)), [87, 83], [134]⟩,
 ⟨some 136, .bin .eql (.tmp 135) (.cst (.int .i64 1)), (some ((some 130), true)), [88, 83], [135]⟩,
 ⟨some 137, .pick (.tmp 130) (.tmp 136) (.cst (.bool false)), none, [83, 89], [130, 136]⟩,
 ⟨some 0, .mv (.tmp 137), none, [90, 87, 0, 1, 2, 3, 4, 5, 6, 7, 8, 9, 10, 11, 12, 13, 14, 15, 16, 17, 18, 19, 20, 21, 22, 23, 24, 25, 26, 27, 28, 29, 30, 31, 32, 33, 34, 35, 36, 37, 38, 39, 40, 41, 42, 43, 44, 45, 46, 47, 48, 49, 50, 51, 52, 53, 54, 55, 56, 57, 58, 59, 60, 61, 62, 63, 64, 65, 66, 67, 68, 69, 70, 71, 72, 73, 74, 75, 76, 77, 78, 79, 80, 81, 82, 83, 84, 85, 86, 87, 88, 89, 90], [137]⟩])
 .ret))))))))
def X14 : AFunc := ⟨138, [.tmp 0], X14.main, false⟩
def X36.main : ACode := (.seq (.region false [
 ⟨some 2, .alloc [(.int .i64 0), (.int .i64 0), (.str ⟨#[]⟩)], none, [], []⟩])
 (.seq (.region false [
 ⟨some 3, .mv (.tmp 0), none, [], []⟩,
 ⟨some 4, .bin .mul (.tmp 3) (.cst (.int .i64 1000000)), none, [], []⟩,
 ⟨some 5, .call true i_X53 [(.tmp 4)], none, [], []⟩,
 ⟨none, .store 3 (.tmp 2) (.tmp 5), none, [], []⟩])
 .ret))
def X36 : AFunc := ⟨6, [.cell 2 true 3], X36.main, false⟩
def X49.main : ACode := (.seq (.seq (.region false [
 ⟨some 1, .box 6 (.tmp 0), none, [], []⟩,
 ⟨some 2, .alloc [.nils, .nils, (.int .i64 0), (.int .i64 0)], none, [], []⟩])
 (.ghost (.kill [0])))
 (.seq (.seq (.region true [
 ⟨some 5, .faddr 2 (.tmp 1), none, [], [1]⟩,
 ⟨some 6, .load false 1 (.tmp 5), none, [0], [5]⟩,
 ⟨some 7, .bin .rem (.tmp 6) (.cst (.int .u8 3)), none, [1], [6]⟩,
 ⟨some 8, .conv .i64 (.tmp 7), none, [2], [7]⟩,
 ⟨some 9, .bin .add (.cst (.int .i64 1)) (.tmp 8), none, [3], [8]⟩,
 ⟨some 10, .faddr 3 (.tmp 1), none, [], [1]⟩,
 ⟨some 11, .load false 1 (.tmp 10), none, [5], [10]⟩,
 ⟨some 12, .bin .rem (.tmp 11) (.cst (.int .u8 3)), none, [6], [11]⟩,
 ⟨some 13, .conv .i64 (.tmp 12), none, [7], [12]⟩,
 ⟨some 14, .bin .add (.cst (.int .i64 1)) (.tmp 13), none, [8], [13]⟩,
 ⟨some 3, .mv (.tmp 9), none, [4, 0, 1, 2, 3, 4], [9]⟩,
 ⟨some 4, .mv (.tmp 14), none, [9, 10, 0, 1, 2, 3, 4, 5, 6, 7, 8, 9, 10], [14]⟩])
 (.ghost (.kill [5, 6, 7, 8, 9, 10, 11, 12, 13, 14])))
 (.seq (.region true [
 ⟨some 15, .faddr 0 (.tmp 1), none, [], [1]⟩,
 ⟨some 16, .load false 1 (.tmp 15), none, [0], [15]⟩,
 ⟨some 17, .mv (.tmp 3), none, [], [3]⟩,
 ⟨some 18, .call true i_X52 [(.tmp 16), (.tmp 17)], none, [1, 2], [16, 17]⟩,
 ⟨some 19, .faddr 1 (.tmp 1), none, [], [1]⟩,
 ⟨some 20, .load false 1 (.tmp 19), none, [4], [19]⟩,
 ⟨some 21, .mv (.tmp 4), none, [], [4]⟩,
 ⟨some 22, .call true i_X52 [(.tmp 20), (.tmp 21)], none, [5, 6, 3], [20, 21]⟩,
 ⟨some 23, .faddr 4 (.tmp 1), none, [], [1]⟩,
 ⟨some 24, .iaddrA 2 1 (.tmp 23) (.cst (.int .i64 0)), none, [8], [23]⟩,
 ⟨some 25, .load false 1 (.tmp 24), none, [9], [24]⟩,
 ⟨some 26, .conv .i64 (.tmp 25), none, [10], [25]⟩,
 ⟨some 27, .mv (.tmp 3), none, [], [3]⟩,
 ⟨some 28, .bin .rem (.tmp 26) (.tmp 27), none, [11, 12], [26, 27]⟩,
 ⟨some 29, .faddr 4 (.tmp 1), none, [], [1]⟩,
 ⟨some 30, .iaddrA 2 1 (.tmp 29) (.cst (.int .i64 1)), none, [14], [29]⟩,
 ⟨some 31, .load false 1 (.tmp 30), none, [15], [30]⟩,
 ⟨some 32, .conv .i64 (.tmp 31), none, [16], [31]⟩,
 ⟨some 33, .mv (.tmp 4), none, [], [4]⟩,
 ⟨some 34, .bin .rem (.tmp 32) (.tmp 33), none, [17, 18], [32, 33]⟩,
 ⟨some 35, .build [(.int .i64 0), (.int .i64 0)] [(0, 1, (.tmp 28)), (1, 1, (.tmp 34))], none, [13, 19], [28, 34]⟩,
 ⟨some 36, .build [.nils, .nils, (.int .i64 0), (.int .i64 0)] [(0, 1, (.tmp 18)), (1, 1, (.tmp 22)), (2, 2, (.tmp 35))], none, [3, 7, 20], [18, 22, 35]⟩,
 ⟨none, .store 4 (.tmp 2) (.tmp 36), none, [21, 7, 0, 1, 2, 3, 4, 5, 6, 7, 8, 9, 10, 11, 12, 13, 14, 15, 16, 17, 18, 19, 20, 21], [2, 36]⟩])
 .ret)))
def X49 : AFunc := ⟨37, [.cell 2 true 4], X49.main, false⟩
def X50.main : ACode := (.seq (.seq (.region false [
 ⟨some 2, .box 2 (.tmp 0), none, [], []⟩,
 ⟨some 3, .box 2 (.tmp 1), none, [], []⟩,
 ⟨some 4, .mv (.cst (.bool false)), none, [], []⟩])
 (.ghost (.kill [0, 1, 4])))
 (.seq (.region false [
 ⟨some 5, .faddr 1 (.tmp 2), none, [], []⟩,
 ⟨some 6, .load false 1 (.tmp 5), none, [], []⟩,
 ⟨some 7, .faddr 1 (.tmp 3), none, [], []⟩,
 ⟨some 8, .load false 1 (.tmp 7), none, [], []⟩,
 ⟨some 9, .bin .eql (.tmp 6) (.tmp 8), none, [], []⟩,
 ⟨some 10, .mv (.tmp 9), none, [], []⟩,
 ⟨some 11, .faddr 0 (.tmp 2), (some ((some 10), true)), [], []⟩,
 ⟨some 12, .load false 1 (.tmp 11), (some ((some 10), true)), [], []⟩,
 ⟨some 13, .faddr 0 (.tmp 3), (some ((some 10), true)), [], []⟩,
 ⟨some 14, .load false 1 (.tmp 13), (some ((some 10), true)), [], []⟩,
 ⟨some 15, .call true i_X15 [(.tmp 12), (.tmp 14)], (some ((some 10), true)), [], []⟩,
 ⟨some 16, .pick (.tmp 10) (.tmp 15) (.cst (.bool false)), none, [], []⟩,
 ⟨some 4, .mv (.tmp 16), none, [], []⟩])
 .ret))
def X50 : AFunc := ⟨17, [.tmp 4], X50.main, false⟩
def X29.main : ACode := (.seq (.seq (.region false [
 ⟨some 5, .box 2 (.tmp 2), none, [], []⟩,
 ⟨some 6, .alloc [.nils, (.int .i64 0)], none, [], []⟩])
 (.ghost (.kill [2])))
 (.seq (.seq (.region false [
 ⟨some 10, .mv (.tmp 0), none, [], []⟩,
 ⟨some 11, .mv (.tmp 1), none, [], []⟩,
 ⟨some 12, .load true 2 (.tmp 5), none, [], []⟩,
 ⟨some 13, .call true i_X21 [(.tmp 10), (.tmp 11), (.tmp 12)], none, [], []⟩,
 ⟨some 9, .mv (.tmp 13), none, [], []⟩,
 ⟨some 14, .extr (.tmp 9) 0, none, [], []⟩,
 ⟨some 15, .extr (.tmp 9) 1, none, [], []⟩,
 ⟨some 7, .mv (.tmp 14), none, [], []⟩,
 ⟨some 8, .mv (.tmp 15), none, [], []⟩])
 (.ghost (.kill [0, 1, 5, 9, 10, 11, 12, 13, 14, 15])))
 (.seq (.region false [
 ⟨some 16, .mv (.tmp 7), none, [], []⟩,
 ⟨some 17, .mv (.tmp 8), none, [], []⟩,
 ⟨some 18, .build [.nils, (.int .i64 0)] [(0, 1, (.tmp 16)), (1, 1, (.tmp 17))], none, [], []⟩,
 ⟨none, .store 2 (.tmp 6) (.tmp 18), none, [], []⟩])
 .ret)))
def X29 : AFunc := ⟨19, [.cell 6 true 2], X29.main, false⟩
def X44.main : ACode := (.seq (.seq (.region false [
 ⟨some 5, .box 2 (.tmp 2), none, [], []⟩,
 ⟨some 6, .alloc [.nils, (.int .i64 0)], none, [], []⟩])
 (.ghost (.kill [2])))
 (.seq (.seq (.region false [
 ⟨some 10, .mv (.tmp 0), none, [], []⟩,
 ⟨some 11, .mv (.tmp 1), none, [], []⟩,
 ⟨some 12, .load true 2 (.tmp 5), none, [], []⟩,
 ⟨some 13, .call true i_X37 [(.tmp 10), (.tmp 11), (.tmp 12)], none, [], []⟩,
 ⟨some 9, .mv (.tmp 13), none, [], []⟩,
 ⟨some 14, .extr (.tmp 9) 0, none, [], []⟩,
 ⟨some 15, .extr (.tmp 9) 1, none, [], []⟩,
 ⟨some 7, .mv (.tmp 14), none, [], []⟩,
 ⟨some 8, .mv (.tmp 15), none, [], []⟩])
 (.ghost (.kill [0, 1, 5, 9, 10, 11, 12, 13, 14, 15])))
 (.seq (.region false [
 ⟨some 16, .mv (.tmp 7), none, [], []⟩,
 ⟨some 17, .mv (.tmp 8), none, [], []⟩,
 ⟨some 18, .build [.nils, (.int .i64 0)] [(0, 1, (.tmp 16)), (1, 1, (.tmp 17))], none, [], []⟩,
 ⟨none, .store 2 (.tmp 6) (.tmp 18), none, [], []⟩])
 .ret)))
def X44 : AFunc := ⟨19, [.cell 6 true 2], X44.main, false⟩
def X30.main : ACode := (.seq (.seq (.region false [
 ⟨some 5, .box 2 (.tmp 2), none, [], []⟩,
 ⟨some 6, .alloc [.nils, (.int .i64 0)], none, [], []⟩])
 (.ghost (.kill [2])))
 (.seq (.seq (.region false [
 ⟨some 10, .mv (.tmp 0), none, [], []⟩,
 ⟨some 11, .mv (.tmp 1), none, [], []⟩,
 ⟨some 12, .load true 2 (.tmp 5), none, [], []⟩,
 ⟨some 13, .call true i_X27 [(.tmp 10), (.tmp 11), (.tmp 12)], none, [], []⟩,
 ⟨some 9, .mv (.tmp 13), none, [], []⟩,
 ⟨some 14, .extr (.tmp 9) 0, none, [], []⟩,
 ⟨some 15, .extr (.tmp 9) 1, none, [], []⟩,
 ⟨some 7, .mv (.tmp 14), none, [], []⟩,
 ⟨some 8, .mv (.tmp 15), none, [], []⟩])
 (.ghost (.kill [0, 1, 5, 9, 10, 11, 12, 13, 14, 15])))
 (.seq (.region false [
 ⟨some 16, .mv (.tmp 7), none, [], []⟩,
 ⟨some 17, .mv (.tmp 8), none, [], []⟩,
 ⟨some 18, .build [.nils, (.int .i64 0)] [(0, 1, (.tmp 16)), (1, 1, (.tmp 17))], none, [], []⟩,
 ⟨none, .store 2 (.tmp 6) (.tmp 18), none, [], []⟩])
 .ret)))
def X30 : AFunc := ⟨19, [.cell 6 true 2], X30.main, false⟩
def X45.main : ACode := (.seq (.seq (.region false [
 ⟨some 5, .box 2 (.tmp 2), none, [], []⟩,
 ⟨some 6, .alloc [.nils, (.int .i64 0)], none, [], []⟩])
 (.ghost (.kill [2])))
 (.seq (.seq (.region false [
 ⟨some 10, .mv (.tmp 0), none, [], []⟩,
 ⟨some 11, .mv (.tmp 1), none, [], []⟩,
 ⟨some 12, .load true 2 (.tmp 5), none, [], []⟩,
 ⟨some 13, .call true i_X38 [(.tmp 10), (.tmp 11), (.tmp 12)], none, [], []⟩,
 ⟨some 9, .mv (.tmp 13), none, [], []⟩,
 ⟨some 14, .extr (.tmp 9) 0, none, [], []⟩,
 ⟨some 15, .extr (.tmp 9) 1, none, [], []⟩,
 ⟨some 7, .mv (.tmp 14), none, [], []⟩,
 ⟨some 8, .mv (.tmp 15), none, [], []⟩])
 (.ghost (.kill [0, 1, 5, 9, 10, 11, 12, 13, 14, 15])))
 (.seq (.region false [
 ⟨some 16, .mv (.tmp 7), none, [], []⟩,
 ⟨some 17, .mv (.tmp 8), none, [], []⟩,
 ⟨some 18, .build [.nils, (.int .i64 0)] [(0, 1, (.tmp 16)), (1, 1, (.tmp 17))], none, [], []⟩,
 ⟨none, .store 2 (.tmp 6) (.tmp 18), none, [], []⟩])
 .ret)))
def X45 : AFunc := ⟨19, [.cell 6 true 2], X45.main, false⟩
def X47.main : ACode := (.seq (.seq (.region false [
 ⟨some 5, .box 2 (.tmp 2), none, [], []⟩,
 ⟨some 6, .alloc [.nils, (.int .i64 0)], none, [], []⟩])
 (.ghost (.kill [2])))
 (.seq (.seq (.region false [
 ⟨some 10, .mv (.tmp 0), none, [], []⟩,
 ⟨some 11, .mv (.tmp 1), none, [], []⟩,
 ⟨some 12, .load true 2 (.tmp 5), none, [], []⟩,
 ⟨some 13, .call true i_X34 [(.tmp 10), (.tmp 11), (.tmp 12)], none, [], []⟩,
 ⟨some 9, .mv (.tmp 13), none, [], []⟩,
 ⟨some 14, .extr (.tmp 9) 0, none, [], []⟩,
 ⟨some 15, .extr (.tmp 9) 1, none, [], []⟩,
 ⟨some 7, .mv (.tmp 14), none, [], []⟩,
 ⟨some 8, .mv (.tmp 15), none, [], []⟩])
 (.ghost (.kill [0, 1, 5, 9, 10, 11, 12, 13, 14, 15])))
 (.seq (.region false [
 ⟨some 16, .mv (.tmp 7), none, [], []⟩,
 ⟨some 17, .mv (.tmp 8), none, [], []⟩,
 ⟨some 18, .build [.nils, (.int .i64 0)] [(0, 1, (.tmp 16)), (1, 1, (.tmp 17))], none, [], []⟩,
 ⟨none, .store 2 (.tmp 6) (.tmp 18), none, [], []⟩])
 .ret)))
def X47 : AFunc := ⟨19, [.cell 6 true 2], X47.main, false⟩
def X39.main : ACode := (.seq (.seq (.region false [
 ⟨some 2, .box 4 (.tmp 0), none, [], []⟩,
 ⟨some 4, .alloc [.nils, (.int .i64 0)], none, [], []⟩])
 (.ghost (.kill [0])))
 (.seq (.seq (.region false [
 ⟨some 8, .faddr 0 (.tmp 2), none, [], []⟩,
 ⟨some 9, .load false 1 (.tmp 8), none, [], []⟩,
 ⟨some 10, .faddr 1 (.tmp 2), none, [], []⟩,
 ⟨some 11, .load false 1 (.tmp 10), none, [], []⟩,
 ⟨some 12, .faddr 2 (.tmp 2), none, [], []⟩,
 ⟨some 13, .load true 2 (.tmp 12), none, [], []⟩,
 ⟨some 14, .mv (.tmp 1), none, [], []⟩,
 ⟨some 15, .call true i_X31 [(.tmp 9), (.tmp 11), (.tmp 13), (.tmp 14)], none, [], []⟩,
 ⟨some 7, .mv (.tmp 15), none, [], []⟩,
 ⟨some 16, .extr (.tmp 7) 0, none, [], []⟩,
 ⟨some 17, .extr (.tmp 7) 1, none, [], []⟩,
 ⟨some 5, .mv (.tmp 16), none, [], []⟩,
 ⟨some 6, .mv (.tmp 17), none, [], []⟩])
 (.ghost (.kill [1, 2, 7, 8, 9, 10, 11, 12, 13, 14, 15, 16, 17])))
 (.seq (.region false [
 ⟨some 18, .mv (.tmp 5), none, [], []⟩,
 ⟨some 19, .mv (.tmp 6), none, [], []⟩,
 ⟨some 20, .build [.nils, (.int .i64 0)] [(0, 1, (.tmp 18)), (1, 1, (.tmp 19))], none, [], []⟩,
 ⟨none, .store 2 (.tmp 4) (.tmp 20), none, [], []⟩])
 .ret)))
def X39 : AFunc := ⟨21, [.cell 4 true 2], X39.main, false⟩
def X43.c0 : ACode := (.seq (.region false [
 ⟨some 55, .mv (.tmp 5), none, [], []⟩,
 ⟨some 4, .mv (.tmp 55), none, [], []⟩])
 .ret)
def X43.c1 : ACode := (.ghost (.kill [0, 1, 6, 12]))
def X43.c2 : ACode := (.seq (.region false [
 ⟨some 13, .mv (.tmp 6), none, [], []⟩,
 ⟨some 14, .bin .add (.tmp 13) (.cst (.int .i64 1)), none, [], []⟩,
 ⟨some 6, .mv (.tmp 14), none, [], []⟩])
 (.ghost (.kill [13, 14])))
def X43.c3 : ACode := (.seq (.seq (.regionD ⟨[40, 44, 50], [], [([40], [45, 46, 47, 48, 49, 51, 52]), ([44], [51, 52])]⟩ [
 ⟨some 40, .bslice 1 0 [.nils] [], none, [], []⟩,
 ⟨some 41, .mv (.tmp 5), none, [], [5]⟩,
 ⟨some 42, .mv (.tmp 7), none, [], [7]⟩,
 ⟨some 43, .slice 1 (.tmp 41) none (some (.tmp 42)) none, none, [1, 2], [41, 42]⟩,
 ⟨some 44, .append 1 24 (.tmp 40) (.tmp 43), none, [0, 3], [40, 43]⟩,
 ⟨some 45, .mv (.tmp 0), none, [], [0]⟩,
 ⟨some 46, .mv (.tmp 6), none, [], [6]⟩,
 ⟨some 47, .iaddr 1 (.tmp 45) (.tmp 46), none, [5, 6], [45, 46]⟩,
 ⟨some 48, .load false 1 (.tmp 47), none, [7], [47]⟩,
 ⟨some 49, .bslice 1 1 [.nils] [(0, (.tmp 48))], none, [8], [48]⟩,
 ⟨some 50, .append 1 24 (.tmp 44) (.tmp 49), none, [4, 9, 4], [44, 49]⟩,
 ⟨some 51, .mv (.tmp 5), none, [], [5]⟩,
 ⟨some 52, .mv (.tmp 7), none, [], [7]⟩,
 ⟨some 53, .slice 1 (.tmp 51) (some (.tmp 52)) none none, none, [11, 12], [51, 52]⟩,
 ⟨some 54, .append 1 24 (.tmp 50) (.tmp 53), none, [10, 13, 10], [50, 53]⟩,
 ⟨some 5, .mv (.tmp 54), none, [14, 14, 0, 1, 2, 3, 4, 5, 6, 7, 8, 9, 10, 11, 12, 13, 14], [54]⟩])
 (.ghost (.freeze 5)))
 (.ghost (.kill [7, 40, 41, 42, 43, 44, 45, 46, 47, 48, 49, 50, 51, 52, 53, 54])))
def X43.b1 : ACode := (.seq (.seq (.seq (.region true [
 ⟨some 17, .mv (.tmp 7), none, [], [7]⟩,
 ⟨some 18, .bin .gtr (.tmp 17) (.cst (.int .i64 0)), none, [0], [17]⟩,
 ⟨some 19, .mv (.tmp 18), none, [1], [18]⟩,
 ⟨some 20, .mv (.tmp 0), (some ((some 19), true)), [2], [0]⟩,
 ⟨some 21, .mv (.tmp 6), (some ((some 19), true)), [2], [6]⟩,
 ⟨some 22, .iaddr 1 (.tmp 20) (.tmp 21), (some ((some 19), true)), [3, 4, 2], [20, 21]⟩,
 ⟨some 23, .load false 1 (.tmp 22), (some ((some 19), true)), [5, 2], [22]⟩,
 ⟨some 24, .mv (.tmp 1), (some ((some 19), true)), [2], [1]⟩,
 ⟨some 25, .iaddr 3 (.tmp 23) (.tmp 24), (some ((some 19), true)), [6, 7, 2], [23, 24]⟩,
 ⟨some 26, .load true 3 (.tmp 25), (some ((some 19), true)), [8, 2], [25]⟩,
 ⟨some 27, .mv (.tmp 5), (some ((some 19), true)), [2], [5]⟩,
 ⟨some 28, .mv (.tmp 7), (some ((some 19), true)), [2], [7]⟩,
 ⟨some 29, .bin .sub (.tmp 28) (.cst (.int .i64 1)), (some ((some 19), true)), [11, 2], [28]⟩,
 ⟨some 30, .iaddr 1 (.tmp 27) (.tmp 29), (some ((some 19), true)), [10, 12, 2], [27, 29]⟩,
 ⟨some 31, .load false 1 (.tmp 30), (some ((some 19), true)), [13, 2], [30]⟩,
 ⟨some 32, .mv (.tmp 1), (some ((some 19), true)), [2], [1]⟩,
 ⟨some 33, .iaddr 3 (.tmp 31) (.tmp 32), (some ((some 19), true)), [14, 15, 2], [31, 32]⟩,
 ⟨some 34, .load true 3 (.tmp 33), (some ((some 19), true)), [16, 2], [33]⟩,
 ⟨some 35, .call true i_X54 [(.tmp 26), (.tmp 34)], (some ((some 19), true)), [9, 17, 2, 2], [26, 34]⟩,
 ⟨some 36, .bin .lss (.tmp 35) (.cst (.int .i64 0)), (some ((some 19), true)), [18, 2], [35]⟩,
 ⟨some 37, .pick (.tmp 19) (.tmp 36) (.cst (.bool false)), none, [2, 19], [19, 36]⟩])
 (.ghost (.kill [17, 18, 19, 20, 21, 22, 23, 24, 25, 26, 27, 28, 29, 30, 31, 32, 33, 34, 35, 36])))
 (.cond (.tmp 37) .skip
 (.exit 2)))
 (.block 3 (.seq (.region false [
 ⟨some 38, .mv (.tmp 7), none, [], []⟩,
 ⟨some 39, .bin .sub (.tmp 38) (.cst (.int .i64 1)), none, [], []⟩,
 ⟨some 7, .mv (.tmp 39), none, [], []⟩])
 (.ghost (.kill [37, 38, 39])))))
def X43.b0 : ACode := (.seq (.seq (.seq (.region false [
 ⟨some 9, .mv (.tmp 6), none, [], []⟩,
 ⟨some 10, .mv (.tmp 0), none, [], []⟩,
 ⟨some 11, .len .sl (.tmp 10), none, [], []⟩,
 ⟨some 12, .bin .lss (.tmp 9) (.tmp 11), none, [], []⟩])
 (.ghost (.kill [9, 10, 11])))
 (.cond (.tmp 12) .skip
 (.exit 0)))
 (.seq (.trunc (.block 1 (.seq (.seq (.region false [
 ⟨some 15, .mv (.tmp 5), none, [], []⟩,
 ⟨some 16, .len .sl (.tmp 15), none, [], []⟩,
 ⟨some 7, .mv (.tmp 16), none, [], []⟩])
 (.ghost (.kill [12, 15, 16])))
 (.seq (.seq (.block 2 (.loop X43.b1))
 (.ghost (.kill [37])))
 X43.c3))))
 X43.c2))
def X43.main : ACode := (.seq (.seq (.region false [
 ⟨some 4, .mv (.cst .nils), none, [], []⟩])
 (.ghost (.kill [4])))
 (.seq (.seq (.seq (.region false [
 ⟨some 8, .bslice 1 0 [.nils] [], none, [], []⟩,
 ⟨some 5, .mv (.tmp 8), none, [], []⟩])
 (.ghost (.freeze 5)))
 (.ghost (.kill [8])))
 (.seq (.seq (.region false [
 ⟨some 6, .mv (.cst (.int .i64 0)), none, [], []⟩])
 (.seq (.block 0 (.loop X43.b0))
 X43.c1))
 X43.c0)))
def X43.k1 (m0 : Nat) : List Item := [.inBlock 2, .code (.ghost (.kill [37])), .code X43.c3, .inBlock 1, .inTrunc m0, .code X43.c2, .inLoop X43.b0, .inBlock 0, .code X43.c1, .code X43.c0]
def X43.k0 : List Item := [.inBlock 0, .code X43.c1, .code X43.c0]
def X43 : AFunc := ⟨56, [.tmp 4], X43.main, false⟩
def X32.c0 : ACode := (.seq (.region false [
 ⟨some 4, .mv (.cst (.bool true)), none, [], []⟩])
 .ret)
def X32.b0 : ACode := (.seq (.seq (.seq (.region false [
 ⟨some 6, .mv (.tmp 5), none, [], []⟩,
 ⟨some 7, .mv (.tmp 0), none, [], []⟩,
 ⟨some 8, .len .sl (.tmp 7), none, [], []⟩,
 ⟨some 9, .bin .lss (.tmp 6) (.tmp 8), none, [], []⟩])
 (.ghost (.kill [6, 7, 8])))
 (.cond (.tmp 9) .skip
 (.exit 0)))
 (.seq (.seq (.block 1 (.seq (.seq (.region true [
 ⟨some 12, .mv (.tmp 0), none, [], [0]⟩,
 ⟨some 13, .mv (.tmp 5), none, [], [5]⟩,
 ⟨some 14, .bin .sub (.tmp 13) (.cst (.int .i64 1)), none, [1], [13]⟩,
 ⟨some 15, .iaddr 1 (.tmp 12) (.tmp 14), none, [0, 2], [12, 14]⟩,
 ⟨some 16, .load false 1 (.tmp 15), none, [3], [15]⟩,
 ⟨some 17, .mv (.tmp 1), none, [], [1]⟩,
 ⟨some 18, .iaddr 3 (.tmp 16) (.tmp 17), none, [4, 5], [16, 17]⟩,
 ⟨some 19, .load true 3 (.tmp 18), none, [6], [18]⟩,
 ⟨some 20, .mv (.tmp 0), none, [], [0]⟩,
 ⟨some 21, .mv (.tmp 5), none, [], [5]⟩,
 ⟨some 22, .iaddr 1 (.tmp 20) (.tmp 21), none, [8, 9], [20, 21]⟩,
 ⟨some 23, .load false 1 (.tmp 22), none, [10], [22]⟩,
 ⟨some 24, .mv (.tmp 1), none, [], [1]⟩,
 ⟨some 25, .iaddr 3 (.tmp 23) (.tmp 24), none, [11, 12], [23, 24]⟩,
 ⟨some 26, .load true 3 (.tmp 25), none, [13], [25]⟩,
 ⟨some 27, .call true i_X54 [(.tmp 19), (.tmp 26)], none, [7, 14], [19, 26]⟩,
 ⟨some 28, .bin .gtr (.tmp 27) (.cst (.int .i64 0)), none, [15], [27]⟩])
 (.ghost (.kill [9, 12, 13, 14, 15, 16, 17, 18, 19, 20, 21, 22, 23, 24, 25, 26, 27])))
 (.cond (.tmp 28) (.seq (.region false [
   ⟨some 4, .mv (.cst (.bool false)), none, [], []⟩])
  .ret)
 .skip)))
 (.ghost (.kill [28])))
 (.seq (.region false [
 ⟨some 10, .mv (.tmp 5), none, [], []⟩,
 ⟨some 11, .bin .add (.tmp 10) (.cst (.int .i64 1)), none, [], []⟩,
 ⟨some 5, .mv (.tmp 11), none, [], []⟩])
 (.ghost (.kill [10, 11])))))
def X32.main : ACode := (.seq (.seq (.region false [
 ⟨some 4, .mv (.cst (.bool false)), none, [], []⟩])
 (.ghost (.kill [4])))
 (.seq (.seq (.region false [
 ⟨some 5, .mv (.cst (.int .i64 1)), none, [], []⟩])
 (.seq (.block 0 (.loop X32.b0))
 (.ghost (.kill [0, 1, 5, 9]))))
 X32.c0))
def X32.k0 : List Item := [.inBlock 0, .code (.ghost (.kill [0, 1, 5, 9])), .code X32.c0]
def X32 : AFunc := ⟨29, [.tmp 4], X32.main, false⟩
def X48.main : ACode := (.seq (.seq (.region false [
 ⟨some 4, .mv (.cst (.bool false)), none, [], []⟩])
 (.ghost (.kill [4])))
 (.seq (.region false [
 ⟨some 5, .mv (.tmp 0), none, [], []⟩,
 ⟨some 6, .mv (.tmp 1), none, [], []⟩,
 ⟨some 7, .call true i_X24 [(.tmp 5), (.tmp 6)], none, [], []⟩,
 ⟨some 8, .bin .eql (.tmp 7) (.cst (.int .i64 0)), none, [], []⟩,
 ⟨some 4, .mv (.tmp 8), none, [], []⟩])
 .ret))
def X48 : AFunc := ⟨9, [.tmp 4], X48.main, false⟩
def X15.c0 : ACode := (.seq (.region false [
 ⟨some 4, .mv (.cst (.bool true)), none, [], []⟩])
 .ret)
def X15.c1 : ACode := (.ghost (.kill [0, 1, 5, 14]))
def X15.b0 : ACode := (.seq (.seq (.seq (.region false [
 ⟨some 11, .mv (.tmp 5), none, [], []⟩,
 ⟨some 12, .mv (.tmp 0), none, [], []⟩,
 ⟨some 13, .len .sl (.tmp 12), none, [], []⟩,
 ⟨some 14, .bin .lss (.tmp 11) (.tmp 13), none, [], []⟩])
 (.ghost (.kill [11, 12, 13])))
 (.cond (.tmp 14) .skip
 (.exit 0)))
 (.seq (.seq (.block 1 (.seq (.seq (.region true [
 ⟨some 17, .mv (.tmp 0), none, [], [0]⟩,
 ⟨some 18, .mv (.tmp 5), none, [], [5]⟩,
 ⟨some 19, .iaddr 1 (.tmp 17) (.tmp 18), none, [0, 1], [17, 18]⟩,
 ⟨some 20, .load false 1 (.tmp 19), none, [2], [19]⟩,
 ⟨some 21, .mv (.tmp 1), none, [], [1]⟩,
 ⟨some 22, .mv (.tmp 5), none, [], [5]⟩,
 ⟨some 23, .iaddr 1 (.tmp 21) (.tmp 22), none, [4, 5], [21, 22]⟩,
 ⟨some 24, .load false 1 (.tmp 23), none, [6], [23]⟩,
 ⟨some 25, .call true i_X48 [(.tmp 20), (.tmp 24)], none, [3, 7], [20, 24]⟩,
 ⟨some 26, .un .not (.tmp 25), none, [8], [25]⟩])
 (.ghost (.kill [14, 17, 18, 19, 20, 21, 22, 23, 24, 25])))
 (.cond (.tmp 26) (.seq (.region false [
   ⟨some 4, .mv (.cst (.bool false)), none, [], []⟩])
  .ret)
 .skip)))
 (.ghost (.kill [26])))
 (.seq (.region false [
 ⟨some 15, .mv (.tmp 5), none, [], []⟩,
 ⟨some 16, .bin .add (.tmp 15) (.cst (.int .i64 1)), none, [], []⟩,
 ⟨some 5, .mv (.tmp 16), none, [], []⟩])
 (.ghost (.kill [15, 16])))))
def X15.main : ACode := (.seq (.seq (.region false [
 ⟨some 4, .mv (.cst (.bool false)), none, [], []⟩])
 (.ghost (.kill [4])))
 (.seq (.seq (.seq (.region false [
 ⟨some 6, .mv (.tmp 0), none, [], []⟩,
 ⟨some 7, .len .sl (.tmp 6), none, [], []⟩,
 ⟨some 8, .mv (.tmp 1), none, [], []⟩,
 ⟨some 9, .len .sl (.tmp 8), none, [], []⟩,
 ⟨some 10, .bin .neq (.tmp 7) (.tmp 9), none, [], []⟩])
 (.ghost (.kill [6, 7, 8, 9])))
 (.cond (.tmp 10) (.seq (.region false [
   ⟨some 4, .mv (.cst (.bool false)), none, [], []⟩])
  .ret)
 .skip))
 (.seq (.seq (.seq (.region false [
 ⟨some 5, .mv (.cst (.int .i64 0)), none, [], []⟩])
 (.ghost (.kill [10])))
 (.seq (.block 0 (.loop X15.b0))
 X15.c1))
 X15.c0)))
def X15.k0 : List Item := [.inBlock 0, .code X15.c1, .code X15.c0]
def X15 : AFunc := ⟨27, [.tmp 4], X15.main, false⟩
def X55.main : ACode := (.seq (.region false [
 ⟨some 2, .alloc [(.int .i64 0), (.int .i64 0), (.str ⟨#[]⟩)], none, [], []⟩])
 (.seq (.region false [
 ⟨some 3, .mv (.tmp 0), none, [], []⟩,
 ⟨some 4, .build [(.int .i64 0), (.int .i64 0), (.str ⟨#[]⟩)] [(0, 1, (.cst (.int .i64 3))), (2, 1, (.tmp 3))], none, [], []⟩,
 ⟨none, .store 3 (.tmp 2) (.tmp 4), none, [], []⟩])
 .ret))
def X55 : AFunc := ⟨5, [.cell 2 true 3], X55.main, false⟩
def X53.main : ACode := (.seq (.region false [
 ⟨some 2, .alloc [(.int .i64 0), (.int .i64 0), (.str ⟨#[]⟩)], none, [], []⟩])
 (.seq (.region false [
 ⟨some 3, .mv (.tmp 0), none, [], []⟩,
 ⟨some 4, .build [(.int .i64 0), (.int .i64 0), (.str ⟨#[]⟩)] [(0, 1, (.cst (.int .i64 2))), (1, 1, (.tmp 3))], none, [], []⟩,
 ⟨none, .store 3 (.tmp 2) (.tmp 4), none, [], []⟩])
 .ret))
def X53 : AFunc := ⟨5, [.cell 2 true 3], X53.main, false⟩
def X52.c0 : ACode := (.seq (.region false [
 ⟨some 58, .mv (.tmp 5), none, [], []⟩,
 ⟨some 4, .mv (.tmp 58), none, [], []⟩])
 .ret)
def X52.c1 : ACode := (.ghost (.kill [0, 1, 6, 24]))
def X52.c2 : ACode := (.seq (.region false [
 ⟨some 25, .mv (.tmp 6), none, [], []⟩,
 ⟨some 26, .mv (.tmp 1), none, [], []⟩,
 ⟨some 27, .bin .add (.tmp 25) (.tmp 26), none, [], []⟩,
 ⟨some 6, .mv (.tmp 27), none, [], []⟩])
 (.ghost (.kill [25, 26, 27])))
def X52.c3 : ACode := (.seq (.ghost (.freeze 7))
 (.seq (.region false [
 ⟨some 54, .mv (.tmp 5), none, [], []⟩,
 ⟨some 55, .mv (.tmp 7), none, [], []⟩,
 ⟨some 56, .bslice 1 1 [.nils] [(0, (.tmp 55))], none, [], []⟩,
 ⟨some 57, .append 1 24 (.tmp 54) (.tmp 56), none, [], []⟩,
 ⟨some 5, .mv (.tmp 57), none, [], []⟩])
 (.ghost (.kill [7, 54, 55, 56, 57]))))
def X52.b1 : ACode := (.seq (.seq (.seq (.region false [
 ⟨some 29, .mv (.tmp 8), none, [], []⟩,
 ⟨some 30, .mv (.tmp 1), none, [], []⟩,
 ⟨some 31, .bin .lss (.tmp 29) (.tmp 30), none, [], []⟩])
 (.ghost (.kill [29, 30])))
 (.cond (.tmp 31) .skip
 (.exit 2)))
 (.seq (.trunc (.block 3 (.seq (.region true [
 ⟨some 34, .mv (.tmp 7), none, [], [7]⟩,
 ⟨some 35, .build [(.int .i64 0), (.int .i64 0), (.str ⟨#[]⟩)] [], none, [], []⟩,
 ⟨some 36, .call true i_X36 [(.cst (.int .i64 0))], none, [], []⟩,
 ⟨some 37, .call true i_X36 [(.cst (.int .i64 1))], none, [2], []⟩,
 ⟨some 38, .call true i_X55 [(.cst (.str ⟨#[97]⟩))], none, [3], []⟩,
 ⟨some 39, .call true i_X36 [(.cst (.int .i64 2))], none, [4], []⟩,
 ⟨some 40, .call true i_X46 [(.cst (.bool true))], none, [5], []⟩,
 ⟨some 41, .call true i_X55 [(.cst (.str ⟨#[]⟩))], none, [6], []⟩,
 ⟨some 42, .bslice 3 7 [(.int .i64 0), (.int .i64 0), (.str ⟨#[]⟩)] [(0, (.tmp 35)), (1, (.tmp 36)), (2, (.tmp 37)), (3, (.tmp 38)), (4, (.tmp 39)), (5, (.tmp 40)), (6, (.tmp 41))], none, [1, 2, 3, 4, 5, 6, 7], [35, 36, 37, 38, 39, 40, 41]⟩,
 ⟨some 43, .mv (.tmp 0), none, [], [0]⟩,
 ⟨some 44, .mv (.tmp 6), none, [], [6]⟩,
 ⟨some 45, .mv (.tmp 8), none, [], [8]⟩,
 ⟨some 46, .bin .add (.tmp 44) (.tmp 45), none, [10, 11], [44, 45]⟩,
 ⟨some 47, .iaddr 1 (.tmp 43) (.tmp 46), none, [9, 12], [43, 46]⟩,
 ⟨some 48, .load false 1 (.tmp 47), none, [13], [47]⟩,
 ⟨some 49, .bin .rem (.tmp 48) (.cst (.int .u8 7)), none, [14], [48]⟩,
 ⟨some 50, .iaddr 3 (.tmp 42) (.tmp 49), none, [8, 15], [42, 49]⟩,
 ⟨some 51, .load true 3 (.tmp 50), none, [16], [50]⟩,
 ⟨some 52, .bslice 3 1 [(.int .i64 0), (.int .i64 0), (.str ⟨#[]⟩)] [(0, (.tmp 51))], none, [17], [51]⟩,
 ⟨some 53, .append 3 32 (.tmp 34) (.tmp 52), none, [0, 18, 7], [34, 52]⟩,
 ⟨some 7, .mv (.tmp 53), none, [19, 19, 0, 1, 2, 3, 4, 5, 6, 7, 8, 9, 10, 11, 12, 13, 14, 15, 16, 17, 18, 19], [53]⟩])
 (.ghost (.kill [31, 34, 35, 36, 37, 38, 39, 40, 41, 42, 43, 44, 45, 46, 47, 48, 49, 50, 51, 52, 53])))))
 (.seq (.region false [
 ⟨some 32, .mv (.tmp 8), none, [], []⟩,
 ⟨some 33, .bin .add (.tmp 32) (.cst (.int .i64 1)), none, [], []⟩,
 ⟨some 8, .mv (.tmp 33), none, [], []⟩])
 (.ghost (.kill [32, 33])))))
def X52.b0 : ACode := (.seq (.seq (.seq (.region false [
 ⟨some 10, .mv (.tmp 6), none, [], []⟩,
 ⟨some 11, .mv (.tmp 1), none, [], []⟩,
 ⟨some 12, .bin .add (.tmp 10) (.tmp 11), none, [], []⟩,
 ⟨some 13, .mv (.tmp 0), none, [], []⟩,
 ⟨some 14, .len .sl (.tmp 13), none, [], []⟩,
 ⟨some 15, .bin .leq (.tmp 12) (.tmp 14), none, [], []⟩,
 ⟨some 16, .mv (.tmp 15), none, [], []⟩,
 ⟨some 17, .mv (.tmp 1), (some ((some 16), true)), [], []⟩,
 ⟨some 18, .bin .gtr (.tmp 17) (.cst (.int .i64 0)), (some ((some 16), true)), [], []⟩,
 ⟨some 19, .pick (.tmp 16) (.tmp 18) (.cst (.bool false)), none, [], []⟩,
 ⟨some 20, .mv (.tmp 19), none, [], []⟩,
 ⟨some 21, .mv (.tmp 5), (some ((some 20), true)), [], []⟩,
 ⟨some 22, .len .sl (.tmp 21), (some ((some 20), true)), [], []⟩,
 ⟨some 23, .bin .lss (.tmp 22) (.cst (.int .i64 20)), (some ((some 20), true)), [], []⟩,
 ⟨some 24, .pick (.tmp 20) (.tmp 23) (.cst (.bool false)), none, [], []⟩])
 (.ghost (.kill [10, 11, 12, 13, 14, 15, 16, 17, 18, 19, 20, 21, 22, 23])))
 (.cond (.tmp 24) .skip
 (.exit 0)))
 (.seq (.trunc (.block 1 (.seq (.seq (.region false [
 ⟨some 28, .bslice 3 0 [(.int .i64 0), (.int .i64 0), (.str ⟨#[]⟩)] [], none, [], []⟩,
 ⟨some 7, .mv (.tmp 28), none, [], []⟩])
 (.ghost (.kill [24, 28])))
 (.seq (.seq (.region false [
 ⟨some 8, .mv (.cst (.int .i64 0)), none, [], []⟩])
 (.seq (.block 2 (.loop X52.b1))
 (.ghost (.kill [8, 31]))))
 X52.c3))))
 X52.c2))
def X52.main : ACode := (.seq (.seq (.region false [
 ⟨some 4, .mv (.cst .nils), none, [], []⟩])
 (.ghost (.kill [4])))
 (.seq (.seq (.region false [
 ⟨some 9, .bslice 1 0 [.nils] [], none, [], []⟩,
 ⟨some 5, .mv (.tmp 9), none, [], []⟩])
 (.ghost (.kill [9])))
 (.seq (.seq (.region false [
 ⟨some 6, .mv (.cst (.int .i64 0)), none, [], []⟩])
 (.seq (.block 0 (.loop X52.b0))
 X52.c1))
 X52.c0)))
def X52.k1 (m0 : Nat) : List Item := [.inBlock 2, .code (.ghost (.kill [8, 31])), .code X52.c3, .inBlock 1, .inTrunc m0, .code X52.c2, .inLoop X52.b0, .inBlock 0, .code X52.c1, .code X52.c0]
def X52.k0 : List Item := [.inBlock 0, .code X52.c1, .code X52.c0]
def X52 : AFunc := ⟨59, [.tmp 4], X52.main, false⟩
def X21.main : ACode := (.seq (.seq (.region false [
 ⟨some 5, .box 2 (.tmp 2), none, [], []⟩,
 ⟨some 6, .mv (.cst .nils), none, [], []⟩,
 ⟨some 7, .mv (.cst (.int .i64 0)), none, [], []⟩])
 (.ghost (.kill [2, 6, 7])))
 (.seq (.seq (.seq (.region false [
 ⟨some 8, .mv (.tmp 0), none, [], []⟩,
 ⟨some 9, .mv (.tmp 1), none, [], []⟩,
 ⟨some 10, .load true 2 (.tmp 5), none, [], []⟩,
 ⟨some 11, .call true i_X51 [(.tmp 8), (.tmp 9), (.tmp 10)], none, [], []⟩,
 ⟨some 12, .un .not (.tmp 11), none, [], []⟩])
 (.ghost (.kill [8, 9, 10, 11])))
 (.cond (.tmp 12) (.seq (.region false [
   ⟨some 6, .mv (.cst .nils), none, [], []⟩,
   ⟨some 7, .mv (.cst (.int .i64 1)), none, [], []⟩])
  .ret)
 .skip))
 (.seq (.region false [
 ⟨some 13, .mv (.tmp 0), none, [], []⟩,
 ⟨some 14, .mv (.tmp 1), none, [], []⟩,
 ⟨some 15, .load true 2 (.tmp 5), none, [], []⟩,
 ⟨some 16, .call true i_X35 [(.tmp 14), (.tmp 15)], none, [], []⟩,
 ⟨some 17, .call true i_X20 [(.tmp 13), (.tmp 16), (.cst (.int .i64 (-1)))], none, [], []⟩,
 ⟨some 18, .extr (.tmp 17) 0, none, [], []⟩,
 ⟨some 19, .extr (.tmp 17) 1, none, [], []⟩,
 ⟨some 6, .mv (.tmp 18), none, [], []⟩,
 ⟨some 7, .mv (.tmp 19), none, [], []⟩])
 .ret)))
def X21 : AFunc := ⟨20, [.tmp 6, .tmp 7], X21.main, false⟩
def X37.main : ACode := (.seq (.seq (.region false [
 ⟨some 5, .box 2 (.tmp 2), none, [], []⟩,
 ⟨some 6, .mv (.cst .nils), none, [], []⟩,
 ⟨some 7, .mv (.cst (.int .i64 0)), none, [], []⟩])
 (.ghost (.kill [2, 6, 7])))
 (.seq (.seq (.seq (.region false [
 ⟨some 8, .mv (.tmp 0), none, [], []⟩,
 ⟨some 9, .mv (.tmp 1), none, [], []⟩,
 ⟨some 10, .load true 2 (.tmp 5), none, [], []⟩,
 ⟨some 11, .call true i_X51 [(.tmp 8), (.tmp 9), (.tmp 10)], none, [], []⟩,
 ⟨some 12, .un .not (.tmp 11), none, [], []⟩])
 (.ghost (.kill [8, 9, 10, 11])))
 (.cond (.tmp 12) (.seq (.region false [
   ⟨some 6, .mv (.cst .nils), none, [], []⟩,
   ⟨some 7, .mv (.cst (.int .i64 1)), none, [], []⟩])
  .ret)
 .skip))
 (.seq (.region false [
 ⟨some 13, .mv (.tmp 0), none, [], []⟩,
 ⟨some 14, .mv (.tmp 1), none, [], []⟩,
 ⟨some 15, .load true 2 (.tmp 5), none, [], []⟩,
 ⟨some 16, .call true i_X26 [(.tmp 14), (.tmp 15)], none, [], []⟩,
 ⟨some 17, .call true i_X20 [(.tmp 13), (.tmp 16), (.cst (.int .i64 (-1)))], none, [], []⟩,
 ⟨some 18, .extr (.tmp 17) 0, none, [], []⟩,
 ⟨some 19, .extr (.tmp 17) 1, none, [], []⟩,
 ⟨some 6, .mv (.tmp 18), none, [], []⟩,
 ⟨some 7, .mv (.tmp 19), none, [], []⟩])
 .ret)))
def X37 : AFunc := ⟨20, [.tmp 6, .tmp 7], X37.main, false⟩
def X27.main : ACode := (.seq (.seq (.region false [
 ⟨some 5, .box 2 (.tmp 2), none, [], []⟩,
 ⟨some 6, .mv (.cst .nils), none, [], []⟩,
 ⟨some 7, .mv (.cst (.int .i64 0)), none, [], []⟩])
 (.ghost (.kill [2, 6, 7])))
 (.seq (.region false [
 ⟨some 8, .mv (.cst (.clo (.func i_X16) [] [])), none, [], []⟩])
 (.seq (.seq (.seq (.region false [
 ⟨some 9, .mv (.tmp 0), none, [], []⟩,
 ⟨some 10, .mv (.tmp 1), none, [], []⟩,
 ⟨some 11, .load true 2 (.tmp 5), none, [], []⟩,
 ⟨some 12, .call true i_X51 [(.tmp 9), (.tmp 10), (.tmp 11)], none, [], []⟩,
 ⟨some 13, .un .not (.tmp 12), none, [], []⟩,
 ⟨some 14, .mv (.tmp 13), none, [], []⟩,
 ⟨some 15, .mv (.tmp 0), (some ((some 14), false)), [], []⟩,
 ⟨some 16, .mv (.tmp 8), (some ((some 14), false)), [], []⟩,
 ⟨some 17, .iaddrA 2 1 (.tmp 5) (.cst (.int .i64 0)), (some ((some 14), false)), [], []⟩,
 ⟨some 18, .load false 1 (.tmp 17), (some ((some 14), false)), [], []⟩,
 ⟨some 19, .callv true (.tmp 16) [(.tmp 18)], (some ((some 14), false)), [], []⟩,
 ⟨some 20, .call true i_X0 [(.tmp 15), (.tmp 19)], (some ((some 14), false)), [], []⟩,
 ⟨some 21, .un .not (.tmp 20), (some ((some 14), false)), [], []⟩,
 ⟨some 22, .pick (.tmp 14) (.cst (.bool true)) (.tmp 21), none, [], []⟩,
 ⟨some 23, .mv (.tmp 22), none, [], []⟩,
 ⟨some 24, .mv (.tmp 1), (some ((some 23), false)), [], []⟩,
 ⟨some 25, .mv (.tmp 8), (some ((some 23), false)), [], []⟩,
 ⟨some 26, .iaddrA 2 1 (.tmp 5) (.cst (.int .i64 1)), (some ((some 23), false)), [], []⟩,
 ⟨some 27, .load false 1 (.tmp 26), (some ((some 23), false)), [], []⟩,
 ⟨some 28, .callv true (.tmp 25) [(.tmp 27)], (some ((some 23), false)), [], []⟩,
 ⟨some 29, .call true i_X0 [(.tmp 24), (.tmp 28)], (some ((some 23), false)), [], []⟩,
 ⟨some 30, .un .not (.tmp 29), (some ((some 23), false)), [], []⟩,
 ⟨some 31, .pick (.tmp 23) (.cst (.bool true)) (.tmp 30), none, [], []⟩])
 (.ghost (.kill [8, 9, 10, 11, 12, 13, 14, 15, 16, 17, 18, 19, 20, 21, 22, 23, 24, 25, 26, 27, 28, 29, 30])))
 (.cond (.tmp 31) (.seq (.region false [
   ⟨some 6, .mv (.cst .nils), none, [], []⟩,
   ⟨some 7, .mv (.cst (.int .i64 1)), none, [], []⟩])
  .ret)
 .skip))
 (.seq (.region false [
 ⟨some 32, .mv (.tmp 0), none, [], []⟩,
 ⟨some 33, .mv (.tmp 1), none, [], []⟩,
 ⟨some 34, .load true 2 (.tmp 5), none, [], []⟩,
 ⟨some 35, .call false i_X25 [(.tmp 33), (.tmp 34)], none, [], []⟩,
 ⟨some 36, .call false i_X20 [(.tmp 32), (.tmp 35), (.cst (.int .i64 (-1)))], none, [], []⟩,
 ⟨some 37, .extr (.tmp 36) 0, none, [], []⟩,
 ⟨some 38, .extr (.tmp 36) 1, none, [], []⟩,
 ⟨some 6, .mv (.tmp 37), none, [], []⟩,
 ⟨some 7, .mv (.tmp 38), none, [], []⟩])
 .ret))))
def X27 : AFunc := ⟨39, [.tmp 6, .tmp 7], X27.main, false⟩
def X38.main : ACode := (.seq (.seq (.region false [
 ⟨some 5, .box 2 (.tmp 2), none, [], []⟩,
 ⟨some 6, .mv (.cst .nils), none, [], []⟩,
 ⟨some 7, .mv (.cst (.int .i64 0)), none, [], []⟩])
 (.ghost (.kill [2, 6, 7])))
 (.seq (.region false [
 ⟨some 8, .mv (.tmp 0), none, [], []⟩,
 ⟨some 9, .mv (.tmp 1), none, [], []⟩,
 ⟨some 10, .load true 2 (.tmp 5), none, [], []⟩,
 ⟨some 11, .call true i_X40 [(.tmp 8), (.tmp 9), (.tmp 10), (.cst (.bool true))], none, [], []⟩,
 ⟨some 12, .extr (.tmp 11) 0, none, [], []⟩,
 ⟨some 13, .extr (.tmp 11) 1, none, [], []⟩,
 ⟨some 6, .mv (.tmp 12), none, [], []⟩,
 ⟨some 7, .mv (.tmp 13), none, [], []⟩])
 .ret))
def X38 : AFunc := ⟨14, [.tmp 6, .tmp 7], X38.main, false⟩
def X34.main : ACode := (.seq (.seq (.region false [
 ⟨some 5, .box 2 (.tmp 2), none, [], []⟩,
 ⟨some 6, .mv (.cst .nils), none, [], []⟩,
 ⟨some 7, .mv (.cst (.int .i64 0)), none, [], []⟩])
 (.ghost (.kill [2, 6, 7])))
 (.seq (.region false [
 ⟨some 8, .mv (.tmp 0), none, [], []⟩,
 ⟨some 9, .mv (.tmp 1), none, [], []⟩,
 ⟨some 10, .load true 2 (.tmp 5), none, [], []⟩,
 ⟨some 11, .call true i_X40 [(.tmp 8), (.tmp 9), (.tmp 10), (.cst (.bool false))], none, [], []⟩,
 ⟨some 12, .extr (.tmp 11) 0, none, [], []⟩,
 ⟨some 13, .extr (.tmp 11) 1, none, [], []⟩,
 ⟨some 6, .mv (.tmp 12), none, [], []⟩,
 ⟨some 7, .mv (.tmp 13), none, [], []⟩])
 .ret))
def X34 : AFunc := ⟨14, [.tmp 6, .tmp 7], X34.main, false⟩
def X31.main : ACode := (.seq (.seq (.region false [
 ⟨some 6, .box 2 (.tmp 2), none, [], []⟩,
 ⟨some 8, .mv (.cst .nils), none, [], []⟩,
 ⟨some 9, .mv (.cst (.int .i64 0)), none, [], []⟩])
 (.ghost (.kill [2, 8, 9])))
 (.seq (.seq (.seq (.region false [
 ⟨some 10, .mv (.tmp 0), none, [], []⟩,
 ⟨some 11, .mv (.tmp 1), none, [], []⟩,
 ⟨some 12, .load true 2 (.tmp 6), none, [], []⟩,
 ⟨some 13, .call true i_X51 [(.tmp 10), (.tmp 11), (.tmp 12)], none, [], []⟩,
 ⟨some 14, .un .not (.tmp 13), none, [], []⟩,
 ⟨some 15, .mv (.tmp 14), none, [], []⟩,
 ⟨some 16, .mv (.tmp 3), (some ((some 15), false)), [], []⟩,
 ⟨some 17, .bin .lss (.tmp 16) (.cst (.int .i64 0)), (some ((some 15), false)), [], []⟩,
 ⟨some 18, .pick (.tmp 15) (.cst (.bool true)) (.tmp 17), none, [], []⟩,
 ⟨some 19, .mv (.tmp 18), none, [], []⟩,
 ⟨some 20, .mv (.tmp 3), (some ((some 19), false)), [], []⟩,
 ⟨some 21, .bin .gtr (.tmp 20) (.cst (.int .i64 32)), (some ((some 19), false)), [], []⟩,
 ⟨some 22, .pick (.tmp 19) (.cst (.bool true)) (.tmp 21), none, [], []⟩])
 (.ghost (.kill [10, 11, 12, 13, 14, 15, 16, 17, 18, 19, 20, 21])))
 (.cond (.tmp 22) (.seq (.region false [
   ⟨some 8, .mv (.cst .nils), none, [], []⟩,
   ⟨some 9, .mv (.cst (.int .i64 1)), none, [], []⟩])
  .ret)
 .skip))
 (.seq (.region false [
 ⟨some 23, .mv (.tmp 0), none, [], []⟩,
 ⟨some 24, .mv (.tmp 1), none, [], []⟩,
 ⟨some 25, .load true 2 (.tmp 6), none, [], []⟩,
 ⟨some 26, .call true i_X26 [(.tmp 24), (.tmp 25)], none, [], []⟩,
 ⟨some 27, .mv (.tmp 3), none, [], []⟩,
 ⟨some 28, .call true i_X20 [(.tmp 23), (.tmp 26), (.tmp 27)], none, [], []⟩,
 ⟨some 29, .extr (.tmp 28) 0, none, [], []⟩,
 ⟨some 30, .extr (.tmp 28) 1, none, [], []⟩,
 ⟨some 8, .mv (.tmp 29), none, [], []⟩,
 ⟨some 9, .mv (.tmp 30), none, [], []⟩])
 .ret)))
def X31 : AFunc := ⟨31, [.tmp 8, .tmp 9], X31.main, false⟩
def X54.main : ACode := (.seq (.seq (.region false [
 ⟨some 2, .box 3 (.tmp 0), none, [], []⟩,
 ⟨some 3, .box 3 (.tmp 1), none, [], []⟩,
 ⟨some 4, .mv (.cst (.int .i64 0)), none, [], []⟩])
 (.ghost (.kill [0, 1, 4])))
 (.seq (.seq (.seq (.region false [
 ⟨some 5, .faddr 0 (.tmp 2), none, [], []⟩,
 ⟨some 6, .load false 1 (.tmp 5), none, [], []⟩,
 ⟨some 7, .faddr 0 (.tmp 3), none, [], []⟩,
 ⟨some 8, .load false 1 (.tmp 7), none, [], []⟩,
 ⟨some 9, .bin .neq (.tmp 6) (.tmp 8), none, [], []⟩])
 (.ghost (.kill [5, 6, 7, 8])))
 (.cond (.tmp 9) (.seq (.region false [
   ⟨some 10, .faddr 0 (.tmp 2), none, [], []⟩,
   ⟨some 11, .load false 1 (.tmp 10), none, [], []⟩,
   ⟨some 12, .faddr 0 (.tmp 3), none, [], []⟩,
   ⟨some 13, .load false 1 (.tmp 12), none, [], []⟩,
   ⟨some 14, .call true i_X42 [(.tmp 11), (.tmp 13)], none, [], []⟩,
   ⟨some 4, .mv (.tmp 14), none, [], []⟩])
  .ret)
 .skip))
 (.seq (.seq (.seq (.region false [
 ⟨some 15, .faddr 1 (.tmp 2), none, [], []⟩,
 ⟨some 16, .load false 1 (.tmp 15), none, [], []⟩,
 ⟨some 17, .faddr 1 (.tmp 3), none, [], []⟩,
 ⟨some 18, .load false 1 (.tmp 17), none, [], []⟩,
 ⟨some 19, .bin .neq (.tmp 16) (.tmp 18), none, [], []⟩])
 (.ghost (.kill [9, 15, 16, 17, 18])))
 (.cond (.tmp 19) (.seq (.region false [
   ⟨some 20, .faddr 1 (.tmp 2), none, [], []⟩,
   ⟨some 21, .load false 1 (.tmp 20), none, [], []⟩,
   ⟨some 22, .faddr 1 (.tmp 3), none, [], []⟩,
   ⟨some 23, .load false 1 (.tmp 22), none, [], []⟩,
   ⟨some 24, .call true i_X42 [(.tmp 21), (.tmp 23)], none, [], []⟩,
   ⟨some 4, .mv (.tmp 24), none, [], []⟩])
  .ret)
 .skip))
 (.seq (.region false [
 ⟨some 25, .faddr 2 (.tmp 2), none, [], []⟩,
 ⟨some 26, .load false 1 (.tmp 25), none, [], []⟩,
 ⟨some 27, .faddr 2 (.tmp 3), none, [], []⟩,
 ⟨some 28, .load false 1 (.tmp 27), none, [], []⟩,
 ⟨some 29, .call true i_X23 [(.tmp 26), (.tmp 28)], none, [], []⟩,
 ⟨some 4, .mv (.tmp 29), none, [], []⟩])
 .ret))))
def X54 : AFunc := ⟨30, [.tmp 4], X54.main, false⟩
def X24.c0 : ACode := (.seq (.region false [
 ⟨some 31, .mv (.tmp 0), none, [], []⟩,
 ⟨some 32, .len .sl (.tmp 31), none, [], []⟩,
 ⟨some 33, .mv (.tmp 1), none, [], []⟩,
 ⟨some 34, .len .sl (.tmp 33), none, [], []⟩,
 ⟨some 35, .call true i_X42 [(.tmp 32), (.tmp 34)], none, [], []⟩,
 ⟨some 4, .mv (.tmp 35), none, [], []⟩])
 .ret)
def X24.b0 : ACode := (.seq (.seq (.seq (.region false [
 ⟨some 7, .mv (.tmp 5), none, [], []⟩,
 ⟨some 8, .mv (.tmp 0), none, [], []⟩,
 ⟨some 9, .len .sl (.tmp 8), none, [], []⟩,
 ⟨some 10, .bin .lss (.tmp 7) (.tmp 9), none, [], []⟩,
 ⟨some 11, .mv (.tmp 10), none, [], []⟩,
 ⟨some 12, .mv (.tmp 5), (some ((some 11), true)), [], []⟩,
 ⟨some 13, .mv (.tmp 1), (some ((some 11), true)), [], []⟩,
 ⟨some 14, .len .sl (.tmp 13), (some ((some 11), true)), [], []⟩,
 ⟨some 15, .bin .lss (.tmp 12) (.tmp 14), (some ((some 11), true)), [], []⟩,
 ⟨some 16, .pick (.tmp 11) (.tmp 15) (.cst (.bool false)), none, [], []⟩])
 (.ghost (.kill [7, 8, 9, 10, 11, 12, 13, 14, 15])))
 (.cond (.tmp 16) .skip
 (.exit 0)))
 (.seq (.seq (.block 1 (.seq (.seq (.region true [
 ⟨some 19, .mv (.tmp 0), none, [], [0]⟩,
 ⟨some 20, .mv (.tmp 5), none, [], [5]⟩,
 ⟨some 21, .iaddr 3 (.tmp 19) (.tmp 20), none, [0, 1], [19, 20]⟩,
 ⟨some 22, .load true 3 (.tmp 21), none, [2], [21]⟩,
 ⟨some 23, .mv (.tmp 1), none, [], [1]⟩,
 ⟨some 24, .mv (.tmp 5), none, [], [5]⟩,
 ⟨some 25, .iaddr 3 (.tmp 23) (.tmp 24), none, [4, 5], [23, 24]⟩,
 ⟨some 26, .load true 3 (.tmp 25), none, [6], [25]⟩,
 ⟨some 27, .call true i_X54 [(.tmp 22), (.tmp 26)], none, [3, 7], [22, 26]⟩,
 ⟨some 6, .mv (.tmp 27), none, [8, 8, 0, 1, 2, 3, 4, 5, 6, 7, 8], [27]⟩])
 (.ghost (.kill [16, 19, 20, 21, 22, 23, 24, 25, 26, 27])))
 (.seq (.seq (.region false [
 ⟨some 28, .mv (.tmp 6), none, [], []⟩,
 ⟨some 29, .bin .neq (.tmp 28) (.cst (.int .i64 0)), none, [], []⟩])
 (.ghost (.kill [28])))
 (.cond (.tmp 29) (.seq (.region false [
   ⟨some 30, .mv (.tmp 6), none, [], []⟩,
   ⟨some 4, .mv (.tmp 30), none, [], []⟩])
  .ret)
 .skip))))
 (.ghost (.kill [6, 29])))
 (.seq (.region false [
 ⟨some 17, .mv (.tmp 5), none, [], []⟩,
 ⟨some 18, .bin .add (.tmp 17) (.cst (.int .i64 1)), none, [], []⟩,
 ⟨some 5, .mv (.tmp 18), none, [], []⟩])
 (.ghost (.kill [17, 18])))))
def X24.main : ACode := (.seq (.seq (.region false [
 ⟨some 4, .mv (.cst (.int .i64 0)), none, [], []⟩])
 (.ghost (.kill [4])))
 (.seq (.seq (.region false [
 ⟨some 5, .mv (.cst (.int .i64 0)), none, [], []⟩])
 (.seq (.block 0 (.loop X24.b0))
 (.ghost (.kill [5, 16]))))
 X24.c0))
def X24.k0 : List Item := [.inBlock 0, .code (.ghost (.kill [5, 16])), .code X24.c0]
def X24 : AFunc := ⟨36, [.tmp 4], X24.main, false⟩
def X46.main : ACode := (.seq (.region false [
 ⟨some 2, .alloc [(.int .i64 0), (.int .i64 0), (.str ⟨#[]⟩)], none, [], []⟩])
 (.seq (.seq (.seq (.region false [
 ⟨some 3, .mv (.tmp 0), none, [], []⟩])
 (.ghost (.kill [0])))
 (.cond (.tmp 3) (.seq (.region false [
   ⟨some 4, .build [(.int .i64 0), (.int .i64 0), (.str ⟨#[]⟩)] [(0, 1, (.cst (.int .i64 1))), (1, 1, (.cst (.int .i64 1)))], none, [], []⟩,
   ⟨none, .store 3 (.tmp 2) (.tmp 4), none, [], []⟩])
  .ret)
 .skip))
 (.seq (.region false [
 ⟨some 5, .build [(.int .i64 0), (.int .i64 0), (.str ⟨#[]⟩)] [(0, 1, (.cst (.int .i64 1)))], none, [], []⟩,
 ⟨none, .store 3 (.tmp 2) (.tmp 5), none, [], []⟩])
 .ret)))
def X46 : AFunc := ⟨6, [.cell 2 true 3], X46.main, false⟩
def X51.main : ACode := (.seq (.seq (.region false [
 ⟨some 5, .box 2 (.tmp 2), none, [], []⟩,
 ⟨some 6, .mv (.cst (.bool false)), none, [], []⟩])
 (.ghost (.kill [2, 6])))
 (.seq (.region false [
 ⟨some 7, .mv (.cst (.clo (.func i_X28) [] [])), none, [], []⟩])
 (.seq (.region false [
 ⟨some 8, .mv (.tmp 7), none, [], []⟩,
 ⟨some 9, .mv (.tmp 0), none, [], []⟩,
 ⟨some 10, .iaddrA 2 1 (.tmp 5) (.cst (.int .i64 0)), none, [], []⟩,
 ⟨some 11, .load false 1 (.tmp 10), none, [], []⟩,
 ⟨some 12, .callv true (.tmp 8) [(.tmp 9), (.tmp 11)], none, [], []⟩,
 ⟨some 13, .mv (.tmp 12), none, [], []⟩,
 ⟨some 14, .mv (.tmp 7), (some ((some 13), true)), [], []⟩,
 ⟨some 15, .mv (.tmp 1), (some ((some 13), true)), [], []⟩,
 ⟨some 16, .iaddrA 2 1 (.tmp 5) (.cst (.int .i64 1)), (some ((some 13), true)), [], []⟩,
 ⟨some 17, .load false 1 (.tmp 16), (some ((some 13), true)), [], []⟩,
 ⟨some 18, .callv true (.tmp 14) [(.tmp 15), (.tmp 17)], (some ((some 13), true)), [], []⟩,
 ⟨some 19, .pick (.tmp 13) (.tmp 18) (.cst (.bool false)), none, [], []⟩,
 ⟨some 6, .mv (.tmp 19), none, [], []⟩])
 .ret)))
def X51 : AFunc := ⟨20, [.tmp 6], X51.main, false⟩
def X20.c0 : ACode := (.seq (.seq (.seq (.region false [
 ⟨some 49, .load false 1 (.tmp 8), none, [], []⟩,
 ⟨none, .store 1 (.tmp 6) (.tmp 49), none, [], []⟩,
 ⟨none, .store 1 (.tmp 7) (.cst (.int .i64 0)), none, [], []⟩])
 (.ghost (.inner 6)))
 (.ghost (.kill [8, 49])))
 .ret)
def X20.c1 : ACode := (.ghost (.kill [1, 2, 13, 14, 15, 16]))
def X20.c2 : ACode := (.seq (.region false [
 ⟨some 48, .bin .add (.tmp 15) (.cst (.int .i64 1)), none, [], []⟩,
 ⟨some 15, .mv (.tmp 48), none, [], []⟩])
 (.ghost (.kill [48])))
def X20.c3 : ACode := (.seq (.seq (.region false [
 ⟨some 32, .load false 1 (.tmp 11), none, [], []⟩,
 ⟨some 33, .un .not (.tmp 32), none, [], []⟩,
 ⟨some 34, .mv (.tmp 33), none, [], []⟩,
 ⟨some 35, .mv (.tmp 2), (some ((some 34), true)), [], []⟩,
 ⟨some 36, .bin .geq (.tmp 35) (.cst (.int .i64 0)), (some ((some 34), true)), [], []⟩,
 ⟨some 37, .pick (.tmp 34) (.tmp 36) (.cst (.bool false)), none, [], []⟩])
 (.ghost (.kill [11, 32, 33, 34, 35, 36])))
 (.seq (.cond (.tmp 37) (.seq (.seq (.seq (.region false [
   ⟨some 38, .load false 1 (.tmp 8), none, [], []⟩,
   ⟨some 39, .len .sl (.tmp 38), none, [], []⟩,
   ⟨some 40, .bin .eql (.tmp 39) (.cst (.int .i64 4096)), none, [], []⟩])
  (.ghost (.kill [37, 38, 39])))
  (.cond (.tmp 40) (.seq (.region false [
    ⟨none, .store 1 (.tmp 6) (.cst .nils), none, [], []⟩,
    ⟨none, .store 1 (.tmp 7) (.cst (.int .i64 2)), none, [], []⟩])
   .ret)
  .skip))
  (.seq (.region true [
   ⟨some 41, .load false 1 (.tmp 8), none, [], [8]⟩,
   ⟨some 42, .load false 1 (.tmp 10), none, [], [10]⟩,
   ⟨some 43, .mv (.tmp 2), none, [], [2]⟩,
   ⟨some 44, .mkslF 3 32 [(.int .i64 0), (.int .i64 0), (.str ⟨#[]⟩)] (.tmp 43) (.tmp 43), none, [2, 2], [43, 43]⟩,
   ⟨some 45, .call true i_X41 [(.tmp 42), (.tmp 44)], none, [1, 3], [42, 44]⟩,
   ⟨some 46, .bslice 1 1 [.nils] [(0, (.tmp 45))], none, [4], [45]⟩,
   ⟨some 47, .append 1 24 (.tmp 41) (.tmp 46), none, [0, 5, 4], [41, 46]⟩,
   ⟨none, .store 1 (.tmp 8) (.tmp 47), none, [6, 6, 0, 1, 2, 3, 4, 5, 6], [8, 47]⟩])
  (.ghost (.kill [10, 40, 41, 42, 43, 44, 45, 46, 47]))))
 .skip)
 (.ghost (.kill [10, 37]))))
def X20.y0 : ACode := (.seq (.region false [
 ⟨some 12, .mv (.tmp 22), none, [], []⟩])
 (.trunc (.block 3 (.seq (.seq (.region false [
 ⟨none, .store 1 (.tmp 11) (.cst (.bool true)), none, [], []⟩])
 (.ghost (.kill [1, 2, 11, 13, 14, 15, 21, 22])))
 (.seq (.seq (.seq (.region false [
 ⟨some 23, .load false 1 (.tmp 8), none, [], []⟩,
 ⟨some 24, .len .sl (.tmp 23), none, [], []⟩,
 ⟨some 25, .bin .eql (.tmp 24) (.cst (.int .i64 4096)), none, [], []⟩])
 (.ghost (.kill [23, 24])))
 (.cond (.tmp 25) (.seq (.region false [
   ⟨none, .store 1 (.tmp 6) (.cst .nils), none, [], []⟩,
   ⟨none, .store 1 (.tmp 7) (.cst (.int .i64 2)), none, [], []⟩])
  .ret)
 .skip))
 (.seq (.region true [
 ⟨some 26, .load false 1 (.tmp 8), none, [], [8]⟩,
 ⟨some 27, .load false 1 (.tmp 10), none, [], [10]⟩,
 ⟨some 28, .mv (.tmp 12), none, [], [12]⟩,
 ⟨some 29, .call true i_X41 [(.tmp 27), (.tmp 28)], none, [1, 2], [27, 28]⟩,
 ⟨some 30, .bslice 1 1 [.nils] [(0, (.tmp 29))], none, [3], [29]⟩,
 ⟨some 31, .append 1 24 (.tmp 26) (.tmp 30), none, [0, 4, 3], [26, 30]⟩,
 ⟨none, .store 1 (.tmp 8) (.tmp 31), none, [5, 5, 0, 1, 2, 3, 4, 5], [8, 31]⟩])
 (.ghost (.kill [6, 7, 8, 10, 12, 25, 26, 27, 28, 29, 30, 31]))))))))
def X20.b0 : ACode := (.seq (.region false [
 ⟨some 16, .bin .lss (.tmp 15) (.tmp 14), none, [], []⟩])
 (.seq (.cond (.tmp 16) .skip
 (.exit 0))
 (.seq (.trunc (.block 1 (.seq (.seq (.region false [
 ⟨some 17, .iaddr 1 (.tmp 13) (.tmp 15), none, [], []⟩,
 ⟨some 18, .load false 1 (.tmp 17), none, [], []⟩,
 ⟨some 10, .alloc [.nils], none, [], []⟩,
 ⟨none, .store 1 (.tmp 10) (.tmp 18), none, [], []⟩])
 (.ghost (.kill [16, 17, 18])))
 (.seq (.region false [
 ⟨some 11, .alloc [(.bool false)], none, [], []⟩,
 ⟨none, .store 1 (.tmp 11) (.cst (.bool false)), none, [], []⟩])
 (.seq (.seq (.seq (.region false [
 ⟨some 19, .mv (.tmp 1), none, [], []⟩,
 ⟨some 20, .load false 1 (.tmp 10), none, [], []⟩,
 ⟨some 21, .callv false (.tmp 19) [(.tmp 20)], none, [], []⟩])
 (.ghost (.kill [19, 20])))
 (.block 2 (.seq (.rangeF (.tmp 21) [22] X20.y0)
 (.ghost (.kill [21])))))
 X20.c3)))))
 X20.c2)))
def X20.main : ACode := (.seq (.region false [
 ⟨some 6, .alloc [.nils], none, [], []⟩,
 ⟨some 7, .alloc [(.int .i64 0)], none, [], []⟩])
 (.seq (.region false [
 ⟨some 8, .allocn [.nils] 0 1, none, [], []⟩])
 (.seq (.seq (.seq (.region false [
 ⟨some 13, .mv (.tmp 0), none, [], []⟩,
 ⟨some 14, .len .sl (.tmp 13), none, [], []⟩,
 ⟨some 15, .mv (.cst (.int .i64 0)), none, [], []⟩])
 (.ghost (.kill [0])))
 (.seq (.block 0 (.loop X20.b0))
 X20.c1))
 X20.c0)))
def X20.k0 : List Item := [.inBlock 0, .code X20.c1, .code X20.c0]
def X20 : AFunc := ⟨50, [.cell 6 false 1, .cell 7 false 1], X20.main, false⟩
def X35.main : ACode := (.seq (.seq (.region false [
 ⟨some 2, .box 1 (.tmp 0), none, [], []⟩,
 ⟨some 3, .box 2 (.tmp 1), none, [], []⟩,
 ⟨some 4, .mv (.cst .nilf), none, [], []⟩])
 (.ghost (.kill [0, 1, 4])))
 (.seq (.region false [
 ⟨some 5, .mkfn (.func i_X22) [] [(.tmp 2), (.tmp 3)], none, [], []⟩,
 ⟨some 4, .mv (.tmp 5), none, [], []⟩])
 .ret))
def X35 : AFunc := ⟨6, [.tmp 4], X35.main, false⟩
def X26.c0 : ACode := (.seq (.region false [
 ⟨some 33, .mkfn (.func i_X19) [] [(.tmp 5), (.tmp 3)], none, [], []⟩,
 ⟨some 4, .mv (.tmp 33), none, [], []⟩])
 .ret)
def X26.c1 : ACode := (.ghost (.kill [10, 11, 12, 13]))
def X26.c2 : ACode := (.seq (.region false [
 ⟨some 32, .bin .add (.tmp 12) (.cst (.int .i64 1)), none, [], []⟩,
 ⟨some 12, .mv (.tmp 32), none, [], []⟩])
 (.ghost (.kill [32])))
def X26.b0 : ACode := (.seq (.region false [
 ⟨some 13, .bin .lss (.tmp 12) (.tmp 11), none, [], []⟩])
 (.seq (.cond (.tmp 13) .skip
 (.exit 0))
 (.seq (.block 1 (.seq (.seq (.region false [
 ⟨some 14, .iaddr 1 (.tmp 10) (.tmp 12), none, [], []⟩,
 ⟨some 15, .load false 1 (.tmp 14), none, [], []⟩,
 ⟨some 7, .mv (.tmp 15), none, [], []⟩])
 (.ghost (.kill [13, 14, 15])))
 (.seq (.seq (.region false [
 ⟨some 16, .mv (.tmp 7), none, [], []⟩,
 ⟨some 17, .iaddrA 2 1 (.tmp 3) (.cst (.int .i64 1)), none, [], []⟩,
 ⟨some 18, .load false 1 (.tmp 17), none, [], []⟩,
 ⟨some 19, .iaddr 3 (.tmp 16) (.tmp 18), none, [], []⟩,
 ⟨some 20, .load true 3 (.tmp 19), none, [], []⟩,
 ⟨some 8, .alloc [(.int .i64 0), (.int .i64 0), (.str ⟨#[]⟩)], none, [], []⟩,
 ⟨none, .store 3 (.tmp 8) (.tmp 20), none, [], []⟩])
 (.ghost (.kill [16, 17, 18, 19, 20])))
 (.seq (.seq (.region false [
 ⟨some 21, .faddr 0 (.tmp 8), none, [], []⟩,
 ⟨some 22, .load false 1 (.tmp 21), none, [], []⟩,
 ⟨some 23, .bin .neq (.tmp 22) (.cst (.int .i64 0)), none, [], []⟩])
 (.ghost (.kill [21, 22])))
 (.seq (.cond (.tmp 23) (.seq (.region false [
   ⟨some 24, .load false 1 (.tmp 5), none, [], []⟩,
   ⟨some 25, .load true 3 (.tmp 8), none, [], []⟩,
   ⟨some 27, .mv (.tmp 7), none, [], []⟩,
   ⟨some 28, .bslice 1 1 [.nils] [(0, (.tmp 27))], none, [], []⟩,
   ⟨some 29, .mapent (.row [(0, 1, false, (.int .i64)), (1, 1, false, (.int .i64)), (2, 1, false, .str)]) .nils (.tmp 24) (.tmp 25), none, [], []⟩,
   ⟨some 26, .extr (.tmp 29) 0, none, [], []⟩,
   ⟨some 30, .append 1 24 (.tmp 26) (.tmp 28), none, [], []⟩,
   ⟨some 31, .extr (.tmp 29) 1, none, [], []⟩,
   ⟨none, .entst (.tmp 24) (.tmp 31) (.tmp 30), none, [], []⟩])
  (.ghost (.kill [7, 8, 23, 24, 25, 26, 27, 28, 29, 30, 31])))
 .skip)
 (.ghost (.kill [7, 8, 23])))))))
 X26.c2)))
def X26.main : ACode := (.seq (.seq (.region false [
 ⟨some 3, .box 2 (.tmp 1), none, [], []⟩,
 ⟨some 4, .mv (.cst .nilf), none, [], []⟩])
 (.ghost (.kill [1, 4])))
 (.seq (.seq (.region false [
 ⟨some 9, .mkmap, none, [], []⟩,
 ⟨some 5, .alloc [.nilm], none, [], []⟩,
 ⟨none, .store 1 (.tmp 5) (.tmp 9), none, [], []⟩])
 (.ghost (.kill [9])))
 (.seq (.seq (.seq (.region false [
 ⟨some 10, .mv (.tmp 0), none, [], []⟩,
 ⟨some 11, .len .sl (.tmp 10), none, [], []⟩,
 ⟨some 12, .mv (.cst (.int .i64 0)), none, [], []⟩])
 (.ghost (.kill [0])))
 (.seq (.block 0 (.loop X26.b0))
 X26.c1))
 X26.c0)))
def X26.k0 : List Item := [.inBlock 0, .code X26.c1, .code X26.c0]
def X26 : AFunc := ⟨34, [.tmp 4], X26.main, false⟩
def X16.main : ACode := (.seq (.seq (.region false [
 ⟨some 1, .box 1 (.tmp 0), none, [], []⟩,
 ⟨some 2, .mv (.cst .nilf), none, [], []⟩])
 (.ghost (.kill [0, 2])))
 (.seq (.region false [
 ⟨some 3, .mkfn (.func i_X11) [] [(.tmp 1)], none, [], []⟩,
 ⟨some 2, .mv (.tmp 3), none, [], []⟩])
 .ret))
def X16 : AFunc := ⟨4, [.tmp 2], X16.main, false⟩
def X11.main : ACode := (.seq (.seq (.region false [
 ⟨some 5, .mv (.cst (.int .i64 0)), none, [], []⟩])
 (.ghost (.kill [5])))
 (.seq (.region true [
 ⟨some 6, .mv (.tmp 0), none, [], [0]⟩,
 ⟨some 7, .load false 1 (.tmp 2), none, [], [2]⟩,
 ⟨some 8, .iaddr 3 (.tmp 6) (.tmp 7), none, [0, 1], [6, 7]⟩,
 ⟨some 9, .load true 3 (.tmp 8), none, [2], [8]⟩,
 ⟨some 10, .mv (.tmp 1), none, [], [1]⟩,
 ⟨some 11, .load false 1 (.tmp 2), none, [], [2]⟩,
 ⟨some 12, .iaddr 3 (.tmp 10) (.tmp 11), none, [4, 5], [10, 11]⟩,
 ⟨some 13, .load true 3 (.tmp 12), none, [6], [12]⟩,
 ⟨some 14, .call true i_X33 [(.tmp 9), (.tmp 13)], none, [3, 7], [9, 13]⟩,
 ⟨some 5, .mv (.tmp 14), none, [8, 8, 0, 1, 2, 3, 4, 5, 6, 7, 8], [14]⟩])
 .ret))
def X11 : AFunc := ⟨15, [.tmp 5], X11.main, false⟩
def X33.main : ACode := (.seq (.seq (.region false [
 ⟨some 2, .box 3 (.tmp 0), none, [], []⟩,
 ⟨some 3, .box 3 (.tmp 1), none, [], []⟩,
 ⟨some 4, .mv (.cst (.int .i64 0)), none, [], []⟩])
 (.ghost (.kill [0, 1, 4])))
 (.seq (.region true [
 ⟨some 5, .faddr 0 (.tmp 2), none, [], [2]⟩,
 ⟨some 6, .load false 1 (.tmp 5), none, [0], [5]⟩,
 ⟨some 7, .faddr 0 (.tmp 3), none, [], [3]⟩,
 ⟨some 8, .load false 1 (.tmp 7), none, [2], [7]⟩,
 ⟨some 9, .call true i_X9 [(.tmp 6), (.tmp 8)], none, [1, 3], [6, 8]⟩,
 ⟨some 10, .faddr 1 (.tmp 2), none, [], [2]⟩,
 ⟨some 11, .load false 1 (.tmp 10), none, [5], [10]⟩,
 ⟨some 12, .faddr 1 (.tmp 3), none, [], [3]⟩,
 ⟨some 13, .load false 1 (.tmp 12), none, [7], [12]⟩,
 ⟨some 14, .call true i_X9 [(.tmp 11), (.tmp 13)], none, [6, 8, 4], [11, 13]⟩,
 ⟨some 15, .faddr 2 (.tmp 2), none, [], [2]⟩,
 ⟨some 16, .load false 1 (.tmp 15), none, [10], [15]⟩,
 ⟨some 17, .faddr 2 (.tmp 3), none, [], [3]⟩,
 ⟨some 18, .load false 1 (.tmp 17), none, [12], [17]⟩,
 ⟨some 19, .call true i_X7 [(.tmp 16), (.tmp 18)], none, [11, 13, 9], [16, 18]⟩,
 ⟨some 20, .flist 1 3 [(.int .i64 0)] [(0, (.tmp 9)), (1, (.tmp 14)), (2, (.tmp 19))], none, [4, 9, 14], [9, 14, 19]⟩,
 ⟨some 21, .call true i_X10 [(.tmp 20)], none, [15, 14], [20]⟩,
 ⟨some 4, .mv (.tmp 21), none, [16, 16, 0, 1, 2, 3, 4, 5, 6, 7, 8, 9, 10, 11, 12, 13, 14, 15, 16], [21]⟩])
 .ret))
def X33 : AFunc := ⟨22, [.tmp 4], X33.main, false⟩
def X0.c0 : ACode := (.seq (.region false [
 ⟨some 4, .mv (.cst (.bool true)), none, [], []⟩])
 .ret)
def X0.c1 : ACode := (.ghost (.kill [0, 1, 5, 10]))
def X0.b0 : ACode := (.seq (.seq (.seq (.region false [
 ⟨some 9, .mv (.tmp 5), none, [], []⟩,
 ⟨some 10, .bin .gtr (.tmp 9) (.cst (.int .i64 0)), none, [], []⟩])
 (.ghost (.kill [9])))
 (.cond (.tmp 10) .skip
 (.exit 0)))
 (.seq (.seq (.block 1 (.seq (.seq (.region true [
 ⟨some 13, .mv (.tmp 1), none, [], [1]⟩,
 ⟨some 14, .mv (.tmp 0), none, [], [0]⟩,
 ⟨some 15, .mv (.tmp 5), none, [], [5]⟩,
 ⟨some 16, .iaddr 1 (.tmp 14) (.tmp 15), none, [1, 2], [14, 15]⟩,
 ⟨some 17, .load false 1 (.tmp 16), none, [3], [16]⟩,
 ⟨some 18, .mv (.tmp 0), none, [], [0]⟩,
 ⟨some 19, .mv (.tmp 5), none, [], [5]⟩,
 ⟨some 20, .bin .sub (.tmp 19) (.cst (.int .i64 1)), none, [6], [19]⟩,
 ⟨some 21, .iaddr 1 (.tmp 18) (.tmp 20), none, [5, 7], [18, 20]⟩,
 ⟨some 22, .load false 1 (.tmp 21), none, [8], [21]⟩,
 ⟨some 23, .callv true (.tmp 13) [(.tmp 17), (.tmp 22)], none, [0, 4, 9], [13, 17, 22]⟩,
 ⟨some 24, .bin .lss (.tmp 23) (.cst (.int .i64 0)), none, [10], [23]⟩])
 (.ghost (.kill [10, 13, 14, 15, 16, 17, 18, 19, 20, 21, 22, 23])))
 (.cond (.tmp 24) (.seq (.region false [
   ⟨some 4, .mv (.cst (.bool false)), none, [], []⟩])
  .ret)
 .skip)))
 (.ghost (.kill [24])))
 (.seq (.region false [
 ⟨some 11, .mv (.tmp 5), none, [], []⟩,
 ⟨some 12, .bin .sub (.tmp 11) (.cst (.int .i64 1)), none, [], []⟩,
 ⟨some 5, .mv (.tmp 12), none, [], []⟩])
 (.ghost (.kill [11, 12])))))
def X0.main : ACode := (.seq (.seq (.region false [
 ⟨some 4, .mv (.cst (.bool false)), none, [], []⟩])
 (.ghost (.kill [4])))
 (.seq (.seq (.seq (.region false [
 ⟨some 6, .mv (.tmp 0), none, [], []⟩,
 ⟨some 7, .len .sl (.tmp 6), none, [], []⟩,
 ⟨some 8, .bin .sub (.tmp 7) (.cst (.int .i64 1)), none, [], []⟩,
 ⟨some 5, .mv (.tmp 8), none, [], []⟩])
 (.ghost (.kill [6, 7, 8])))
 (.seq (.block 0 (.loop X0.b0))
 X0.c1))
 X0.c0))
def X0.k0 : List Item := [.inBlock 0, .code X0.c1, .code X0.c0]
def X0 : AFunc := ⟨25, [.tmp 4], X0.main, false⟩
def X25.main : ACode := (.seq (.seq (.region false [
 ⟨some 2, .box 1 (.tmp 0), none, [], []⟩,
 ⟨some 3, .box 2 (.tmp 1), none, [], []⟩,
 ⟨some 4, .mv (.cst .nilf), none, [], []⟩])
 (.ghost (.kill [0, 1, 4])))
 (.seq (.region false [
 ⟨some 5, .alloc [(.int .i64 0)], none, [], []⟩,
 ⟨none, .store 1 (.tmp 5) (.cst (.int .i64 0)), none, [], []⟩])
 (.seq (.region false [
 ⟨some 6, .mkfn (.func i_X17) [] [(.tmp 3), (.tmp 5), (.tmp 2)], none, [], []⟩,
 ⟨some 4, .mv (.tmp 6), none, [], []⟩])
 .ret)))
def X25 : AFunc := ⟨7, [.tmp 4], X25.main, false⟩
def X40.c0 : ACode := (.seq (.region false [
 ⟨some 41, .mv (.tmp 11), none, [], []⟩,
 ⟨some 8, .mv (.tmp 41), none, [], []⟩,
 ⟨some 9, .mv (.cst (.int .i64 0)), none, [], []⟩])
 .ret)
def X40.c1 : ACode := (.ghost (.kill [3, 10, 23, 24, 25, 26]))
def X40.c2 : ACode := (.seq (.region false [
 ⟨some 40, .bin .add (.tmp 25) (.cst (.int .i64 1)), none, [], []⟩,
 ⟨some 25, .mv (.tmp 40), none, [], []⟩])
 (.ghost (.kill [40])))
def X40.c3 : ACode := (.seq (.seq (.region false [
 ⟨some 33, .load false 1 (.tmp 14), none, [], []⟩,
 ⟨some 34, .mv (.tmp 3), none, [], []⟩,
 ⟨some 35, .eqs false .bool (.tmp 33) (.tmp 34), none, [], []⟩])
 (.ghost (.kill [14, 33, 34])))
 (.seq (.cond (.tmp 35) (.seq (.region false [
   ⟨some 36, .mv (.tmp 11), none, [], []⟩,
   ⟨some 37, .mv (.tmp 13), none, [], []⟩,
   ⟨some 38, .bslice 1 1 [.nils] [(0, (.tmp 37))], none, [], []⟩,
   ⟨some 39, .append 1 24 (.tmp 36) (.tmp 38), none, [], []⟩,
   ⟨some 11, .mv (.tmp 39), none, [], []⟩])
  (.ghost (.kill [13, 35, 36, 37, 38, 39])))
 .skip)
 (.ghost (.kill [13, 35]))))
def X40.y0 : ACode := (.seq (.region false [])
 (.block 3 (.seq (.seq (.region false [
 ⟨none, .store 1 (.tmp 14) (.cst (.bool true)), none, [], []⟩])
 (.ghost (.kill [3, 10, 11, 13, 14, 23, 24, 25, 31, 32])))
 (.exit 2))))
def X40.b0 : ACode := (.seq (.region false [
 ⟨some 26, .bin .lss (.tmp 25) (.tmp 24), none, [], []⟩])
 (.seq (.cond (.tmp 26) .skip
 (.exit 0))
 (.seq (.trunc (.block 1 (.seq (.seq (.region false [
 ⟨some 27, .iaddr 1 (.tmp 23) (.tmp 25), none, [], []⟩,
 ⟨some 28, .load false 1 (.tmp 27), none, [], []⟩,
 ⟨some 13, .mv (.tmp 28), none, [], []⟩])
 (.ghost (.kill [26, 27, 28])))
 (.seq (.region false [
 ⟨some 14, .alloc [(.bool false)], none, [], []⟩,
 ⟨none, .store 1 (.tmp 14) (.cst (.bool false)), none, [], []⟩])
 (.seq (.seq (.seq (.region false [
 ⟨some 29, .mv (.tmp 10), none, [], []⟩,
 ⟨some 30, .mv (.tmp 13), none, [], []⟩,
 ⟨some 31, .callv false (.tmp 29) [(.tmp 30)], none, [], []⟩])
 (.ghost (.kill [29, 30])))
 (.seq (.block 2 (.seq (.rangeF (.tmp 31) [32] X40.y0)
 (.ghost (.kill [31]))))
 (.ghost (.kill [31]))))
 X40.c3)))))
 X40.c2)))
def X40.main : ACode := (.seq (.seq (.region false [
 ⟨some 6, .box 2 (.tmp 2), none, [], []⟩,
 ⟨some 8, .mv (.cst .nils), none, [], []⟩,
 ⟨some 9, .mv (.cst (.int .i64 0)), none, [], []⟩])
 (.ghost (.kill [2, 8, 9])))
 (.seq (.seq (.seq (.region false [
 ⟨some 15, .mv (.tmp 0), none, [], []⟩,
 ⟨some 16, .mv (.tmp 1), none, [], []⟩,
 ⟨some 17, .load true 2 (.tmp 6), none, [], []⟩,
 ⟨some 18, .call true i_X51 [(.tmp 15), (.tmp 16), (.tmp 17)], none, [], []⟩,
 ⟨some 19, .un .not (.tmp 18), none, [], []⟩])
 (.ghost (.kill [15, 16, 17, 18])))
 (.cond (.tmp 19) (.seq (.region false [
   ⟨some 8, .mv (.cst .nils), none, [], []⟩,
   ⟨some 9, .mv (.cst (.int .i64 1)), none, [], []⟩])
  .ret)
 .skip))
 (.seq (.seq (.region false [
 ⟨some 20, .mv (.tmp 1), none, [], []⟩,
 ⟨some 21, .load true 2 (.tmp 6), none, [], []⟩,
 ⟨some 22, .call true i_X26 [(.tmp 20), (.tmp 21)], none, [], []⟩,
 ⟨some 10, .mv (.tmp 22), none, [], []⟩])
 (.ghost (.kill [1, 6, 19, 20, 21, 22])))
 (.seq (.seq (.region false [
 ⟨some 11, .mv (.cst .nils), none, [], []⟩])
 (.ghost (.nilref 11 1)))
 (.seq (.seq (.seq (.region false [
 ⟨some 23, .mv (.tmp 0), none, [], []⟩,
 ⟨some 24, .len .sl (.tmp 23), none, [], []⟩,
 ⟨some 25, .mv (.cst (.int .i64 0)), none, [], []⟩])
 (.ghost (.kill [0])))
 (.seq (.block 0 (.loop X40.b0))
 X40.c1))
 X40.c0)))))
def X40.k0 : List Item := [.inBlock 0, .code X40.c1, .code X40.c0]
def X40 : AFunc := ⟨42, [.tmp 8, .tmp 9], X40.main, false⟩
def X42.main : ACode := (.seq (.seq (.region false [
 ⟨some 4, .mv (.cst (.int .i64 0)), none, [], []⟩])
 (.ghost (.kill [4])))
 (.seq (.seq (.seq (.region false [
 ⟨some 5, .mv (.tmp 0), none, [], []⟩,
 ⟨some 6, .mv (.tmp 1), none, [], []⟩,
 ⟨some 7, .bin .lss (.tmp 5) (.tmp 6), none, [], []⟩])
 (.ghost (.kill [5, 6])))
 (.cond (.tmp 7) (.seq (.region false [
   ⟨some 4, .mv (.cst (.int .i64 (-1))), none, [], []⟩])
  .ret)
 .skip))
 (.seq (.seq (.seq (.region false [
 ⟨some 8, .mv (.tmp 0), none, [], []⟩,
 ⟨some 9, .mv (.tmp 1), none, [], []⟩,
 ⟨some 10, .bin .gtr (.tmp 8) (.tmp 9), none, [], []⟩])
 (.ghost (.kill [0, 1, 7, 8, 9])))
 (.cond (.tmp 10) (.seq (.region false [
   ⟨some 4, .mv (.cst (.int .i64 1)), none, [], []⟩])
  .ret)
 .skip))
 (.seq (.region false [
 ⟨some 4, .mv (.cst (.int .i64 0)), none, [], []⟩])
 .ret))))
def X42 : AFunc := ⟨11, [.tmp 4], X42.main, false⟩
def X23.c0 : ACode := (.seq (.region false [
 ⟨some 34, .mv (.tmp 0), none, [], []⟩,
 ⟨some 35, .len .str (.tmp 34), none, [], []⟩,
 ⟨some 36, .mv (.tmp 1), none, [], []⟩,
 ⟨some 37, .len .str (.tmp 36), none, [], []⟩,
 ⟨some 38, .call true i_X42 [(.tmp 35), (.tmp 37)], none, [], []⟩,
 ⟨some 4, .mv (.tmp 38), none, [], []⟩])
 .ret)
def X23.b0 : ACode := (.seq (.seq (.seq (.region false [
 ⟨some 6, .mv (.tmp 5), none, [], []⟩,
 ⟨some 7, .mv (.tmp 0), none, [], []⟩,
 ⟨some 8, .len .str (.tmp 7), none, [], []⟩,
 ⟨some 9, .bin .lss (.tmp 6) (.tmp 8), none, [], []⟩,
 ⟨some 10, .mv (.tmp 9), none, [], []⟩,
 ⟨some 11, .mv (.tmp 5), (some ((some 10), true)), [], []⟩,
 ⟨some 12, .mv (.tmp 1), (some ((some 10), true)), [], []⟩,
 ⟨some 13, .len .str (.tmp 12), (some ((some 10), true)), [], []⟩,
 ⟨some 14, .bin .lss (.tmp 11) (.tmp 13), (some ((some 10), true)), [], []⟩,
 ⟨some 15, .pick (.tmp 10) (.tmp 14) (.cst (.bool false)), none, [], []⟩])
 (.ghost (.kill [6, 7, 8, 9, 10, 11, 12, 13, 14])))
 (.cond (.tmp 15) .skip
 (.exit 0)))
 (.seq (.seq (.block 1 (.seq (.seq (.region true [
 ⟨some 18, .mv (.tmp 0), none, [], [0]⟩,
 ⟨some 19, .mv (.tmp 5), none, [], [5]⟩,
 ⟨some 20, .idxS (.tmp 18) (.tmp 19), none, [0, 1], [18, 19]⟩,
 ⟨some 21, .mv (.tmp 1), none, [], [1]⟩,
 ⟨some 22, .mv (.tmp 5), none, [], [5]⟩,
 ⟨some 23, .idxS (.tmp 21) (.tmp 22), none, [3, 4], [21, 22]⟩,
 ⟨some 24, .bin .neq (.tmp 20) (.tmp 23), none, [2, 5], [20, 23]⟩])
 (.ghost (.kill [15, 18, 19, 20, 21, 22, 23])))
 (.cond (.tmp 24) (.seq (.region true [
   ⟨some 25, .mv (.tmp 0), none, [], [0]⟩,
   ⟨some 26, .mv (.tmp 5), none, [], [5]⟩,
   ⟨some 27, .idxS (.tmp 25) (.tmp 26), none, [0, 1], [25, 26]⟩,
   ⟨some 28, .conv .i64 (.tmp 27), none, [2], [27]⟩,
   ⟨some 29, .mv (.tmp 1), none, [], [1]⟩,
   ⟨some 30, .mv (.tmp 5), none, [], [5]⟩,
   ⟨some 31, .idxS (.tmp 29) (.tmp 30), none, [4, 5], [29, 30]⟩,
   ⟨some 32, .conv .i64 (.tmp 31), none, [6], [31]⟩,
   ⟨some 33, .call true i_X42 [(.tmp 28), (.tmp 32)], none, [3, 7], [28, 32]⟩,
   ⟨some 4, .mv (.tmp 33), none, [8, 8, 0, 1, 2, 3, 4, 5, 6, 7, 8], [33]⟩])
  .ret)
 .skip)))
 (.ghost (.kill [24])))
 (.seq (.region false [
 ⟨some 16, .mv (.tmp 5), none, [], []⟩,
 ⟨some 17, .bin .add (.tmp 16) (.cst (.int .i64 1)), none, [], []⟩,
 ⟨some 5, .mv (.tmp 17), none, [], []⟩])
 (.ghost (.kill [16, 17])))))
def X23.main : ACode := (.seq (.seq (.region false [
 ⟨some 4, .mv (.cst (.int .i64 0)), none, [], []⟩])
 (.ghost (.kill [4])))
 (.seq (.seq (.region false [
 ⟨some 5, .mv (.cst (.int .i64 0)), none, [], []⟩])
 (.seq (.block 0 (.loop X23.b0))
 (.ghost (.kill [5, 15]))))
 X23.c0))
def X23.k0 : List Item := [.inBlock 0, .code (.ghost (.kill [5, 15])), .code X23.c0]
def X23 : AFunc := ⟨39, [.tmp 4], X23.main, false⟩
def X28.main : ACode := (.seq (.seq (.region false [
 ⟨some 3, .box 1 (.tmp 1), none, [], []⟩,
 ⟨some 4, .mv (.cst (.bool false)), none, [], []⟩])
 (.ghost (.kill [1, 4])))
 (.seq (.region false [
 ⟨some 5, .load false 1 (.tmp 3), none, [], []⟩,
 ⟨some 6, .bin .geq (.tmp 5) (.cst (.int .i64 0)), none, [], []⟩,
 ⟨some 7, .mv (.tmp 6), none, [], []⟩,
 ⟨some 8, .mv (.tmp 0), (some ((some 7), true)), [], []⟩,
 ⟨some 9, .mkfn (.func i_X18) [] [(.tmp 3)], (some ((some 7), true)), [], []⟩,
 ⟨some 10, .call true i_X1 [(.tmp 8), (.tmp 9)], (some ((some 7), true)), [], []⟩,
 ⟨some 11, .un .not (.tmp 10), (some ((some 7), true)), [], []⟩,
 ⟨some 12, .pick (.tmp 7) (.tmp 11) (.cst (.bool false)), none, [], []⟩,
 ⟨some 4, .mv (.tmp 12), none, [], []⟩])
 .ret))
def X28 : AFunc := ⟨13, [.tmp 4], X28.main, false⟩
def X1.main : ACode := (.seq (.seq (.region false [
 ⟨some 4, .mv (.cst (.bool false)), none, [], []⟩])
 (.ghost (.kill [4])))
 (.seq (.region false [
 ⟨some 5, .mv (.tmp 0), none, [], []⟩,
 ⟨some 6, .mv (.tmp 1), none, [], []⟩,
 ⟨some 7, .call true i_X2 [(.tmp 5), (.tmp 6)], none, [], []⟩,
 ⟨some 8, .bin .geq (.tmp 7) (.cst (.int .i64 0)), none, [], []⟩,
 ⟨some 4, .mv (.tmp 8), none, [], []⟩])
 .ret))
def X1 : AFunc := ⟨9, [.tmp 4], X1.main, false⟩
def X18.main : ACode := (.seq (.seq (.region false [
 ⟨some 3, .mv (.cst (.bool false)), none, [], []⟩])
 (.ghost (.kill [3])))
 (.seq (.region false [
 ⟨some 4, .load false 1 (.tmp 1), none, [], []⟩,
 ⟨some 5, .mv (.tmp 0), none, [], []⟩,
 ⟨some 6, .len .sl (.tmp 5), none, [], []⟩,
 ⟨some 7, .bin .geq (.tmp 4) (.tmp 6), none, [], []⟩,
 ⟨some 3, .mv (.tmp 7), none, [], []⟩])
 .ret))
def X18 : AFunc := ⟨8, [.tmp 3], X18.main, false⟩
def X41.main : ACode := (.seq (.seq (.region false [
 ⟨some 4, .mv (.cst .nils), none, [], []⟩])
 (.ghost (.kill [4])))
 (.seq (.region false [
 ⟨some 5, .mv (.tmp 0), none, [], []⟩,
 ⟨some 6, .call false i_X3 [(.tmp 5)], none, [], []⟩,
 ⟨some 7, .mv (.tmp 1), none, [], []⟩,
 ⟨some 8, .append 3 32 (.tmp 6) (.tmp 7), none, [], []⟩,
 ⟨some 4, .mv (.tmp 8), none, [], []⟩])
 .ret))
def X41 : AFunc := ⟨9, [.tmp 4], X41.main, false⟩
def X22.main : ACode := (.seq (.seq (.region false [
 ⟨some 3, .box 1 (.tmp 0), none, [], []⟩,
 ⟨some 4, .mv (.cst .nilf), none, [], []⟩])
 (.ghost (.kill [0, 4])))
 (.seq (.region false [
 ⟨some 5, .mkfn (.func i_X12) [] [(.tmp 1), (.tmp 3), (.tmp 2)], none, [], []⟩,
 ⟨some 4, .mv (.tmp 5), none, [], []⟩])
 .ret))
def X22 : AFunc := ⟨6, [.tmp 4], X22.main, false⟩
def X12.c0 : ACode := (.ghost (.kill [0, 7, 8, 9, 10]))
def X12.b0 : ACode := (.seq (.region false [
 ⟨some 10, .bin .lss (.tmp 9) (.tmp 8), none, [], []⟩])
 (.seq (.cond (.tmp 10) .skip
 (.exit 0))
 (.seq (.trunc (.seq (.block 1 (.seq (.seq (.region false [
 ⟨some 11, .iaddr 1 (.tmp 7) (.tmp 9), none, [], []⟩,
 ⟨some 12, .load false 1 (.tmp 11), none, [], []⟩,
 ⟨some 6, .mv (.tmp 12), none, [], []⟩])
 (.ghost (.kill [10, 11, 12])))
 (.seq (.seq (.region true [
 ⟨some 13, .load false 1 (.tmp 2), none, [], [2]⟩,
 ⟨some 14, .iaddrA 2 1 (.tmp 3) (.cst (.int .i64 0)), none, [], [3]⟩,
 ⟨some 15, .load false 1 (.tmp 14), none, [1], [14]⟩,
 ⟨some 16, .iaddr 3 (.tmp 13) (.tmp 15), none, [0, 2], [13, 15]⟩,
 ⟨some 17, .faddr 0 (.tmp 16), none, [3], [16]⟩,
 ⟨some 18, .load false 1 (.tmp 17), none, [4], [17]⟩,
 ⟨some 19, .bin .neq (.tmp 18) (.cst (.int .i64 0)), none, [5], [18]⟩,
 ⟨some 20, .mv (.tmp 19), none, [6], [19]⟩,
 ⟨some 21, .load false 1 (.tmp 2), (some ((some 20), true)), [7], [2]⟩,
 ⟨some 22, .iaddrA 2 1 (.tmp 3) (.cst (.int .i64 0)), (some ((some 20), true)), [7], [3]⟩,
 ⟨some 23, .load false 1 (.tmp 22), (some ((some 20), true)), [9, 7], [22]⟩,
 ⟨some 24, .iaddr 3 (.tmp 21) (.tmp 23), (some ((some 20), true)), [8, 10, 7], [21, 23]⟩,
 ⟨some 25, .load true 3 (.tmp 24), (some ((some 20), true)), [11, 7], [24]⟩,
 ⟨some 26, .mv (.tmp 6), (some ((some 20), true)), [7], [6]⟩,
 ⟨some 27, .iaddrA 2 1 (.tmp 3) (.cst (.int .i64 1)), (some ((some 20), true)), [7], [3]⟩,
 ⟨some 28, .load false 1 (.tmp 27), (some ((some 20), true)), [14, 7], [27]⟩,
 ⟨some 29, .iaddr 3 (.tmp 26) (.tmp 28), (some ((some 20), true)), [13, 15, 7], [26, 28]⟩,
 ⟨some 30, .load true 3 (.tmp 29), (some ((some 20), true)), [16, 7], [29]⟩,
 ⟨some 31, .eqs false (.row [(0, 1, false, (.int .i64)), (1, 1, false, (.int .i64)), (2, 1, false, .str)]) (.tmp 25) (.tmp 30), (some ((some 20), true)), [12, 17, 7], [25, 30]⟩,
 ⟨some 32, .pick (.tmp 20) (.tmp 31) (.cst (.bool false)), none, [7, 18], [20, 31]⟩,
 ⟨some 33, .mv (.tmp 32), none, [19, 7], [32]⟩,
 ⟨some 34, .mv (.tmp 0), (some ((some 33), true)), [20], [0]⟩,
 ⟨some 35, .mv (.tmp 6), (some ((some 33), true)), [20], [6]⟩,
 ⟨some 36, .callv false (.tmp 34) [(.tmp 35)], (some ((some 33), true)), [21, 22, 20, 20], [34, 35]⟩,
 ⟨some 37, .un .not (.tmp 36), (some ((some 33), true)), [23, 20], [36]⟩,
 ⟨some 38, .pick (.tmp 33) (.tmp 37) (.cst (.bool false)), none, [20, 24], [33, 37]⟩])
 (.ghost (.kill [6, 13, 14, 15, 16, 17, 18, 19, 20, 21, 22, 23, 24, 25, 26, 27, 28, 29, 30, 31, 32, 33, 34, 35, 36, 37])))
 (.cond (.tmp 38) .ret
 .skip))))
 (.ghost (.kill [38]))))
 (.seq (.region false [
 ⟨some 39, .bin .add (.tmp 9) (.cst (.int .i64 1)), none, [], []⟩,
 ⟨some 9, .mv (.tmp 39), none, [], []⟩])
 (.ghost (.kill [39]))))))
def X12.main : ACode := (.seq (.region false [
 ⟨some 7, .load false 1 (.tmp 1), none, [], []⟩,
 ⟨some 8, .len .sl (.tmp 7), none, [], []⟩,
 ⟨some 9, .mv (.cst (.int .i64 0)), none, [], []⟩])
 (.seq (.block 0 (.loop X12.b0))
 X12.c0))
def X12.k0 : List Item := [.inBlock 0, .code X12.c0]
def X12 : AFunc := ⟨40, [], X12.main, false⟩
def X19.main : ACode := (.seq (.seq (.region false [
 ⟨some 4, .mv (.cst .nilf), none, [], []⟩])
 (.ghost (.kill [4])))
 (.seq (.region true [
 ⟨some 5, .load false 1 (.tmp 1), none, [], [1]⟩,
 ⟨some 6, .mv (.tmp 0), none, [], [0]⟩,
 ⟨some 7, .iaddrA 2 1 (.tmp 2) (.cst (.int .i64 0)), none, [], [2]⟩,
 ⟨some 8, .load false 1 (.tmp 7), none, [2], [7]⟩,
 ⟨some 9, .iaddr 3 (.tmp 6) (.tmp 8), none, [1, 3], [6, 8]⟩,
 ⟨some 10, .load true 3 (.tmp 9), none, [4], [9]⟩,
 ⟨some 11, .lookup (.row [(0, 1, false, (.int .i64)), (1, 1, false, (.int .i64)), (2, 1, false, .str)]) .nils false (.tmp 5) (.tmp 10), none, [0, 5], [5, 10]⟩,
 ⟨some 12, .call true i_X5 [(.tmp 11)], none, [6], [11]⟩,
 ⟨some 4, .mv (.tmp 12), none, [7, 7, 0, 1, 2, 3, 4, 5, 6, 7], [12]⟩])
 .ret))
def X19 : AFunc := ⟨13, [.tmp 4], X19.main, false⟩
def X5.main : ACode := (.seq (.seq (.region false [
 ⟨some 1, .box 1 (.tmp 0), none, [], []⟩,
 ⟨some 2, .mv (.cst .nilf), none, [], []⟩])
 (.ghost (.kill [0, 2])))
 (.seq (.region false [
 ⟨some 3, .mkfn (.func i_X4) [] [(.tmp 1)], none, [], []⟩,
 ⟨some 2, .mv (.tmp 3), none, [], []⟩])
 .ret))
def X5 : AFunc := ⟨4, [.tmp 2], X5.main, false⟩
def X10.c0 : ACode := (.seq (.region false [
 ⟨some 17, .mv (.tmp 3), none, [], []⟩,
 ⟨some 2, .mv (.tmp 17), none, [], []⟩])
 .ret)
def X10.b0 : ACode := (.seq (.region false [
 ⟨some 9, .bin .lss (.tmp 8) (.tmp 7), none, [], []⟩])
 (.seq (.cond (.tmp 9) .skip
 (.exit 0))
 (.seq (.seq (.block 1 (.seq (.seq (.region false [
 ⟨some 10, .iaddr 1 (.tmp 6) (.tmp 8), none, [], []⟩,
 ⟨some 11, .load false 1 (.tmp 10), none, [], []⟩,
 ⟨some 5, .mv (.tmp 11), none, [], []⟩])
 (.ghost (.kill [9, 10, 11])))
 (.seq (.seq (.region false [
 ⟨some 12, .mv (.tmp 5), none, [], []⟩,
 ⟨some 13, .mv (.tmp 3), none, [], []⟩,
 ⟨some 14, .bin .neq (.tmp 12) (.tmp 13), none, [], []⟩])
 (.ghost (.kill [12, 13])))
 (.cond (.tmp 14) (.seq (.region false [
   ⟨some 15, .mv (.tmp 5), none, [], []⟩,
   ⟨some 2, .mv (.tmp 15), none, [], []⟩])
  .ret)
 .skip))))
 (.ghost (.kill [5, 14])))
 (.seq (.region false [
 ⟨some 16, .bin .add (.tmp 8) (.cst (.int .i64 1)), none, [], []⟩,
 ⟨some 8, .mv (.tmp 16), none, [], []⟩])
 (.ghost (.kill [16]))))))
def X10.main : ACode := (.seq (.seq (.region false [
 ⟨some 2, .mv (.cst (.int .i64 0)), none, [], []⟩])
 (.ghost (.kill [2])))
 (.seq (.region false [
 ⟨some 3, .mv (.cst (.int .i64 0)), none, [], []⟩])
 (.seq (.seq (.seq (.region false [
 ⟨some 6, .mv (.tmp 0), none, [], []⟩,
 ⟨some 7, .len .sl (.tmp 6), none, [], []⟩,
 ⟨some 8, .mv (.cst (.int .i64 0)), none, [], []⟩])
 (.ghost (.kill [0])))
 (.seq (.block 0 (.loop X10.b0))
 (.ghost (.kill [6, 7, 8, 9]))))
 X10.c0)))
def X10.k0 : List Item := [.inBlock 0, .code (.ghost (.kill [6, 7, 8, 9])), .code X10.c0]
def X10 : AFunc := ⟨18, [.tmp 2], X10.main, false⟩
def X9.main : ACode := (.seq (.seq (.region false [
 ⟨some 4, .mv (.cst (.int .i64 0)), none, [], []⟩])
 (.ghost (.kill [4])))
 (.seq (.seq (.region false [
 ⟨some 7, .mv (.tmp 0), none, [], []⟩,
 ⟨some 8, .call true i_X13 [(.tmp 7)], none, [], []⟩,
 ⟨some 5, .mv (.tmp 8), none, [], []⟩])
 (.ghost (.kill [7, 8])))
 (.seq (.seq (.region false [
 ⟨some 9, .mv (.tmp 1), none, [], []⟩,
 ⟨some 10, .call true i_X13 [(.tmp 9)], none, [], []⟩,
 ⟨some 6, .mv (.tmp 10), none, [], []⟩])
 (.ghost (.kill [9, 10])))
 (.seq (.seq (.seq (.region false [
 ⟨some 11, .mv (.tmp 5), none, [], []⟩])
 (.ghost (.kill [5])))
 (.cond (.tmp 11) (.seq (.seq (.seq (.region false [
   ⟨some 12, .mv (.tmp 6), none, [], []⟩])
  (.ghost (.kill [0, 1, 6, 11])))
  (.cond (.tmp 12) (.seq (.region false [
    ⟨some 4, .mv (.cst (.int .i64 0)), none, [], []⟩])
   .ret)
  .skip))
  (.seq (.region false [
   ⟨some 4, .mv (.cst (.int .i64 (-1))), none, [], []⟩])
  .ret))
 .skip))
 (.seq (.seq (.seq (.region false [
 ⟨some 13, .mv (.tmp 6), none, [], []⟩])
 (.ghost (.kill [6, 11])))
 (.cond (.tmp 13) (.seq (.region false [
   ⟨some 4, .mv (.cst (.int .i64 1)), none, [], []⟩])
  .ret)
 .skip))
 (.seq (.seq (.seq (.region false [
 ⟨some 14, .mv (.tmp 0), none, [], []⟩,
 ⟨some 15, .mv (.tmp 1), none, [], []⟩,
 ⟨some 16, .bin .lss (.tmp 14) (.tmp 15), none, [], []⟩])
 (.ghost (.kill [13, 14, 15])))
 (.cond (.tmp 16) (.seq (.region false [
   ⟨some 4, .mv (.cst (.int .i64 (-1))), none, [], []⟩])
  .ret)
 .skip))
 (.seq (.seq (.seq (.region false [
 ⟨some 17, .mv (.tmp 0), none, [], []⟩,
 ⟨some 18, .mv (.tmp 1), none, [], []⟩,
 ⟨some 19, .bin .gtr (.tmp 17) (.tmp 18), none, [], []⟩])
 (.ghost (.kill [0, 1, 16, 17, 18])))
 (.cond (.tmp 19) (.seq (.region false [
   ⟨some 4, .mv (.cst (.int .i64 1)), none, [], []⟩])
  .ret)
 .skip))
 (.seq (.region false [
 ⟨some 4, .mv (.cst (.int .i64 0)), none, [], []⟩])
 .ret))))))))
def X9 : AFunc := ⟨20, [.tmp 4], X9.main, false⟩
def X7.main : ACode := (.seq (.seq (.region false [
 ⟨some 4, .mv (.cst (.int .i64 0)), none, [], []⟩])
 (.ghost (.kill [4])))
 (.seq (.seq (.region false [
 ⟨some 7, .mv (.tmp 0), none, [], []⟩,
 ⟨some 8, .call true i_X8 [(.tmp 7)], none, [], []⟩,
 ⟨some 5, .mv (.tmp 8), none, [], []⟩])
 (.ghost (.kill [7, 8])))
 (.seq (.seq (.region false [
 ⟨some 9, .mv (.tmp 1), none, [], []⟩,
 ⟨some 10, .call true i_X8 [(.tmp 9)], none, [], []⟩,
 ⟨some 6, .mv (.tmp 10), none, [], []⟩])
 (.ghost (.kill [9, 10])))
 (.seq (.seq (.seq (.region false [
 ⟨some 11, .mv (.tmp 5), none, [], []⟩])
 (.ghost (.kill [5])))
 (.cond (.tmp 11) (.seq (.seq (.seq (.region false [
   ⟨some 12, .mv (.tmp 6), none, [], []⟩])
  (.ghost (.kill [0, 1, 6, 11])))
  (.cond (.tmp 12) (.seq (.region false [
    ⟨some 4, .mv (.cst (.int .i64 0)), none, [], []⟩])
   .ret)
  .skip))
  (.seq (.region false [
   ⟨some 4, .mv (.cst (.int .i64 (-1))), none, [], []⟩])
  .ret))
 .skip))
 (.seq (.seq (.seq (.region false [
 ⟨some 13, .mv (.tmp 6), none, [], []⟩])
 (.ghost (.kill [6, 11])))
 (.cond (.tmp 13) (.seq (.region false [
   ⟨some 4, .mv (.cst (.int .i64 1)), none, [], []⟩])
  .ret)
 .skip))
 (.seq (.seq (.seq (.region false [
 ⟨some 14, .mv (.tmp 0), none, [], []⟩,
 ⟨some 15, .mv (.tmp 1), none, [], []⟩,
 ⟨some 16, .bin .lss (.tmp 14) (.tmp 15), none, [], []⟩])
 (.ghost (.kill [13, 14, 15])))
 (.cond (.tmp 16) (.seq (.region false [
   ⟨some 4, .mv (.cst (.int .i64 (-1))), none, [], []⟩])
  .ret)
 .skip))
 (.seq (.seq (.seq (.region false [
 ⟨some 17, .mv (.tmp 0), none, [], []⟩,
 ⟨some 18, .mv (.tmp 1), none, [], []⟩,
 ⟨some 19, .bin .gtr (.tmp 17) (.tmp 18), none, [], []⟩])
 (.ghost (.kill [0, 1, 16, 17, 18])))
 (.cond (.tmp 19) (.seq (.region false [
   ⟨some 4, .mv (.cst (.int .i64 1)), none, [], []⟩])
  .ret)
 .skip))
 (.seq (.region false [
 ⟨some 4, .mv (.cst (.int .i64 0)), none, [], []⟩])
 .ret))))))))
def X7 : AFunc := ⟨20, [.tmp 4], X7.main, false⟩
def X17.c0 : ACode := (.seq (.region false [
 ⟨some 56, .load false 1 (.tmp 3), none, [], []⟩,
 ⟨some 57, .load false 1 (.tmp 2), none, [], []⟩,
 ⟨some 58, .mv (.tmp 7), none, [], []⟩,
 ⟨some 59, .slice 1 (.tmp 56) (some (.tmp 57)) (some (.tmp 58)) none, none, [], []⟩,
 ⟨some 60, .call true i_X5 [(.tmp 59)], none, [], []⟩,
 ⟨some 5, .mv (.tmp 60), none, [], []⟩])
 .ret)
def X17.b1 : ACode := (.seq (.seq (.seq (.region true [
 ⟨some 33, .mv (.tmp 7), none, [], [7]⟩,
 ⟨some 34, .load false 1 (.tmp 3), none, [], [3]⟩,
 ⟨some 35, .len .sl (.tmp 34), none, [1], [34]⟩,
 ⟨some 36, .bin .lss (.tmp 33) (.tmp 35), none, [0, 2], [33, 35]⟩,
 ⟨some 37, .mv (.tmp 36), none, [3], [36]⟩,
 ⟨some 38, .faddr 0 (.tmp 6), (some ((some 37), true)), [4], [6]⟩,
 ⟨some 39, .load false 1 (.tmp 38), (some ((some 37), true)), [5, 4], [38]⟩,
 ⟨some 40, .bin .neq (.tmp 39) (.cst (.int .i64 0)), (some ((some 37), true)), [6, 4], [39]⟩,
 ⟨some 41, .pick (.tmp 37) (.tmp 40) (.cst (.bool false)), none, [4, 7], [37, 40]⟩,
 ⟨some 42, .mv (.tmp 41), none, [8, 4], [41]⟩,
 ⟨some 43, .load false 1 (.tmp 3), (some ((some 42), true)), [9], [3]⟩,
 ⟨some 44, .mv (.tmp 7), (some ((some 42), true)), [9], [7]⟩,
 ⟨some 45, .iaddr 1 (.tmp 43) (.tmp 44), (some ((some 42), true)), [10, 11, 9], [43, 44]⟩,
 ⟨some 46, .load false 1 (.tmp 45), (some ((some 42), true)), [12, 9], [45]⟩,
 ⟨some 47, .iaddrA 2 1 (.tmp 1) (.cst (.int .i64 1)), (some ((some 42), true)), [9], [1]⟩,
 ⟨some 48, .load false 1 (.tmp 47), (some ((some 42), true)), [14, 9], [47]⟩,
 ⟨some 49, .iaddr 3 (.tmp 46) (.tmp 48), (some ((some 42), true)), [13, 15, 9], [46, 48]⟩,
 ⟨some 50, .load true 3 (.tmp 49), (some ((some 42), true)), [16, 9], [49]⟩,
 ⟨some 51, .load true 3 (.tmp 6), (some ((some 42), true)), [9], [6]⟩,
 ⟨some 52, .eqs false (.row [(0, 1, false, (.int .i64)), (1, 1, false, (.int .i64)), (2, 1, false, .str)]) (.tmp 50) (.tmp 51), (some ((some 42), true)), [17, 18, 9], [50, 51]⟩,
 ⟨some 53, .pick (.tmp 42) (.tmp 52) (.cst (.bool false)), none, [9, 19], [42, 52]⟩])
 (.ghost (.kill [33, 34, 35, 36, 37, 38, 39, 40, 41, 42, 43, 44, 45, 46, 47, 48, 49, 50, 51, 52])))
 (.cond (.tmp 53) .skip
 (.exit 2)))
 (.block 3 (.seq (.region false [
 ⟨some 54, .mv (.tmp 7), none, [], []⟩,
 ⟨some 55, .bin .add (.tmp 54) (.cst (.int .i64 1)), none, [], []⟩,
 ⟨some 7, .mv (.tmp 55), none, [], []⟩])
 (.ghost (.kill [53, 54, 55])))))
def X17.c1 : ACode := (.seq (.seq (.region false [
 ⟨some 32, .load false 1 (.tmp 2), none, [], []⟩,
 ⟨some 7, .mv (.tmp 32), none, [], []⟩])
 (.ghost (.kill [32])))
 (.seq (.seq (.block 2 (.loop X17.b1))
 (.ghost (.kill [6, 53])))
 X17.c0))
def X17.b0 : ACode := (.seq (.seq (.seq (.region true [
 ⟨some 13, .load false 1 (.tmp 2), none, [], [2]⟩,
 ⟨some 14, .load false 1 (.tmp 3), none, [], [3]⟩,
 ⟨some 15, .len .sl (.tmp 14), none, [1], [14]⟩,
 ⟨some 16, .bin .lss (.tmp 13) (.tmp 15), none, [0, 2], [13, 15]⟩,
 ⟨some 17, .mv (.tmp 16), none, [3], [16]⟩,
 ⟨some 18, .load false 1 (.tmp 3), (some ((some 17), true)), [4], [3]⟩,
 ⟨some 19, .load false 1 (.tmp 2), (some ((some 17), true)), [4], [2]⟩,
 ⟨some 20, .iaddr 1 (.tmp 18) (.tmp 19), (some ((some 17), true)), [5, 6, 4], [18, 19]⟩,
 ⟨some 21, .load false 1 (.tmp 20), (some ((some 17), true)), [7, 4], [20]⟩,
 ⟨some 22, .iaddrA 2 1 (.tmp 1) (.cst (.int .i64 1)), (some ((some 17), true)), [4], [1]⟩,
 ⟨some 23, .load false 1 (.tmp 22), (some ((some 17), true)), [9, 4], [22]⟩,
 ⟨some 24, .iaddr 3 (.tmp 21) (.tmp 23), (some ((some 17), true)), [8, 10, 4], [21, 23]⟩,
 ⟨some 25, .load true 3 (.tmp 24), (some ((some 17), true)), [11, 4], [24]⟩,
 ⟨some 26, .load true 3 (.tmp 6), (some ((some 17), true)), [4], [6]⟩,
 ⟨some 27, .call true i_X33 [(.tmp 25), (.tmp 26)], (some ((some 17), true)), [12, 13, 4, 4], [25, 26]⟩,
 ⟨some 28, .bin .lss (.tmp 27) (.cst (.int .i64 0)), (some ((some 17), true)), [14, 4], [27]⟩,
 ⟨some 29, .pick (.tmp 17) (.tmp 28) (.cst (.bool false)), none, [4, 15], [17, 28]⟩])
 (.ghost (.kill [13, 14, 15, 16, 17, 18, 19, 20, 21, 22, 23, 24, 25, 26, 27, 28])))
 (.cond (.tmp 29) .skip
 (.exit 0)))
 (.block 1 (.seq (.region false [
 ⟨some 30, .load false 1 (.tmp 2), none, [], []⟩,
 ⟨some 31, .bin .add (.tmp 30) (.cst (.int .i64 1)), none, [], []⟩,
 ⟨none, .store 1 (.tmp 2) (.tmp 31), none, [], []⟩])
 (.ghost (.kill [29, 30, 31])))))
def X17.main : ACode := (.seq (.seq (.region false [
 ⟨some 5, .mv (.cst .nilf), none, [], []⟩])
 (.ghost (.kill [5])))
 (.seq (.seq (.region false [
 ⟨some 8, .mv (.tmp 0), none, [], []⟩,
 ⟨some 9, .iaddrA 2 1 (.tmp 1) (.cst (.int .i64 0)), none, [], []⟩,
 ⟨some 10, .load false 1 (.tmp 9), none, [], []⟩,
 ⟨some 11, .iaddr 3 (.tmp 8) (.tmp 10), none, [], []⟩,
 ⟨some 12, .load true 3 (.tmp 11), none, [], []⟩,
 ⟨some 6, .alloc [(.int .i64 0), (.int .i64 0), (.str ⟨#[]⟩)], none, [], []⟩,
 ⟨none, .store 3 (.tmp 6) (.tmp 12), none, [], []⟩])
 (.ghost (.kill [0, 8, 9, 10, 11, 12])))
 (.seq (.seq (.block 0 (.loop X17.b0))
 (.ghost (.kill [29])))
 X17.c1)))
def X17.k1 : List Item := [.inBlock 2, .code (.ghost (.kill [6, 53])), .code X17.c0]
def X17.k0 : List Item := [.inBlock 0, .code (.ghost (.kill [29])), .code X17.c1]
def X17 : AFunc := ⟨61, [.tmp 5], X17.main, false⟩
def X2.c0 : ACode := (.seq (.region false [
 ⟨some 4, .mv (.cst (.int .i64 (-1))), none, [], []⟩])
 .ret)
def X2.c1 : ACode := (.ghost (.kill [0, 1, 7, 8, 9]))
def X2.b0 : ACode := (.seq (.region false [
 ⟨some 9, .bin .lss (.tmp 8) (.tmp 7), none, [], []⟩])
 (.seq (.cond (.tmp 9) .skip
 (.exit 0))
 (.seq (.seq (.block 1 (.seq (.seq (.region false [
 ⟨some 10, .mv (.tmp 8), none, [], []⟩,
 ⟨some 5, .mv (.tmp 10), none, [], []⟩])
 (.ghost (.kill [9, 10])))
 (.seq (.seq (.region false [
 ⟨some 11, .mv (.tmp 1), none, [], []⟩,
 ⟨some 12, .mv (.tmp 0), none, [], []⟩,
 ⟨some 13, .mv (.tmp 5), none, [], []⟩,
 ⟨some 14, .iaddr 1 (.tmp 12) (.tmp 13), none, [], []⟩,
 ⟨some 15, .load false 1 (.tmp 14), none, [], []⟩,
 ⟨some 16, .callv true (.tmp 11) [(.tmp 15)], none, [], []⟩])
 (.ghost (.kill [11, 12, 13, 14, 15])))
 (.cond (.tmp 16) (.seq (.region false [
   ⟨some 17, .mv (.tmp 5), none, [], []⟩,
   ⟨some 4, .mv (.tmp 17), none, [], []⟩])
  .ret)
 .skip))))
 (.ghost (.kill [5, 16])))
 (.seq (.region false [
 ⟨some 18, .bin .add (.tmp 8) (.cst (.int .i64 1)), none, [], []⟩,
 ⟨some 8, .mv (.tmp 18), none, [], []⟩])
 (.ghost (.kill [18]))))))
def X2.main : ACode := (.seq (.seq (.region false [
 ⟨some 4, .mv (.cst (.int .i64 0)), none, [], []⟩])
 (.ghost (.kill [4])))
 (.seq (.seq (.seq (.region false [
 ⟨some 6, .mv (.tmp 0), none, [], []⟩,
 ⟨some 7, .len .sl (.tmp 6), none, [], []⟩,
 ⟨some 8, .mv (.cst (.int .i64 0)), none, [], []⟩])
 (.ghost (.kill [6])))
 (.seq (.block 0 (.loop X2.b0))
 X2.c1))
 X2.c0))
def X2.k0 : List Item := [.inBlock 0, .code X2.c1, .code X2.c0]
def X2 : AFunc := ⟨19, [.tmp 4], X2.main, false⟩
def X3.main : ACode := (.seq (.seq (.region false [
 ⟨some 2, .mv (.cst .nils), none, [], []⟩])
 (.ghost (.kill [2])))
 (.seq (.seq (.seq (.region false [
 ⟨some 3, .mv (.tmp 0), none, [], []⟩,
 ⟨some 4, .eqnil false .sl (.tmp 3), none, [], []⟩])
 (.ghost (.kill [3])))
 (.cond (.tmp 4) (.seq (.region false [
   ⟨some 2, .mv (.cst .nils), none, [], []⟩])
  .ret)
 .skip))
 (.seq (.region false [
 ⟨some 5, .bslice 3 0 [(.int .i64 0), (.int .i64 0), (.str ⟨#[]⟩)] [], none, [], []⟩,
 ⟨some 6, .mv (.tmp 0), none, [], []⟩,
 ⟨some 7, .append 3 32 (.tmp 5) (.tmp 6), none, [], []⟩,
 ⟨some 2, .mv (.tmp 7), none, [], []⟩])
 .ret)))
def X3 : AFunc := ⟨8, [.tmp 2], X3.main, false⟩
def X4.c0 : ACode := (.ghost (.kill [0, 5, 6, 7, 8]))
def X4.b0 : ACode := (.seq (.region false [
 ⟨some 8, .bin .lss (.tmp 7) (.tmp 6), none, [], []⟩])
 (.seq (.cond (.tmp 8) .skip
 (.exit 0))
 (.seq (.trunc (.seq (.block 1 (.seq (.seq (.region false [
 ⟨some 9, .iaddr 1 (.tmp 5) (.tmp 7), none, [], []⟩,
 ⟨some 10, .load false 1 (.tmp 9), none, [], []⟩,
 ⟨some 4, .mv (.tmp 10), none, [], []⟩])
 (.ghost (.kill [8, 9, 10])))
 (.seq (.seq (.region false [
 ⟨some 11, .mv (.tmp 0), none, [], []⟩,
 ⟨some 12, .mv (.tmp 4), none, [], []⟩,
 ⟨some 13, .callv false (.tmp 11) [(.tmp 12)], none, [], []⟩,
 ⟨some 14, .un .not (.tmp 13), none, [], []⟩])
 (.ghost (.kill [4, 11, 12, 13])))
 (.cond (.tmp 14) .ret
 .skip))))
 (.ghost (.kill [14]))))
 (.seq (.region false [
 ⟨some 15, .bin .add (.tmp 7) (.cst (.int .i64 1)), none, [], []⟩,
 ⟨some 7, .mv (.tmp 15), none, [], []⟩])
 (.ghost (.kill [15]))))))
def X4.main : ACode := (.seq (.region false [
 ⟨some 5, .load false 1 (.tmp 1), none, [], []⟩,
 ⟨some 6, .len .sl (.tmp 5), none, [], []⟩,
 ⟨some 7, .mv (.cst (.int .i64 0)), none, [], []⟩])
 (.seq (.block 0 (.loop X4.b0))
 X4.c0))
def X4.k0 : List Item := [.inBlock 0, .code X4.c0]
def X4 : AFunc := ⟨16, [], X4.main, false⟩
def X13.main : ACode := (.seq (.seq (.region false [
 ⟨some 2, .mv (.cst (.bool false)), none, [], []⟩])
 (.ghost (.kill [2])))
 (.seq (.region false [
 ⟨some 3, .mv (.tmp 0), none, [], []⟩,
 ⟨some 4, .mv (.tmp 0), none, [], []⟩,
 ⟨some 5, .bin .neq (.tmp 3) (.tmp 4), none, [], []⟩,
 ⟨some 2, .mv (.tmp 5), none, [], []⟩])
 .ret))
def X13 : AFunc := ⟨6, [.tmp 2], X13.main, false⟩
def X8.main : ACode := (.seq (.seq (.region false [
 ⟨some 2, .mv (.cst (.bool false)), none, [], []⟩])
 (.ghost (.kill [2])))
 (.seq (.region false [
 ⟨some 3, .mv (.tmp 0), none, [], []⟩,
 ⟨some 4, .mv (.tmp 0), none, [], []⟩,
 ⟨some 5, .bin .neq (.tmp 3) (.tmp 4), none, [], []⟩,
 ⟨some 2, .mv (.tmp 5), none, [], []⟩])
 .ret))
def X8 : AFunc := ⟨6, [.tmp 2], X8.main, false⟩
def T : FuncId → Option AFunc
 | 4 => some X6
 | 9 => some X14
 | 12 => some X36
 | 13 => some X49
 | 14 => some X50
 | 15 => some X29
 | 17 => some X44
 | 18 => some X30
 | 20 => some X45
 | 22 => some X47
 | 24 => some X39
 | 26 => some X43
 | 27 => some X32
 | 28 => some X48
 | 29 => some X15
 | 31 => some X55
 | 32 => some X53
 | 33 => some X52
 | 34 => some X21
 | 37 => some X37
 | 38 => some X27
 | 39 => some X38
 | 41 => some X34
 | 42 => some X31
 | 43 => some X54
 | 44 => some X24
 | 48 => some X46
 | 49 => some X51
 | 50 => some X20
 | 51 => some X35
 | 53 => some X26
 | 54 => some X16
 | 55 => some X11
 | 56 => some X33
 | 57 => some X0
 | 58 => some X25
 | 59 => some X40
 | 61 => some X42
 | 62 => some X23
 | 68 => some X28
 | 69 => some X1
 | 70 => some X18
 | 71 => some X41
 | 72 => some X22
 | 73 => some X12
 | 74 => some X19
 | 75 => some X5
 | 76 => some X10
 | 77 => some X9
 | 78 => some X7
 | 79 => some X17
 | 83 => some X2
 | 84 => some X3
 | 85 => some X4
 | 86 => some X13
 | 87 => some X8
 | _ => none
theorem T_X6 : T i_X6 = some X6 := rfl
theorem T_X14 : T i_X14 = some X14 := rfl
theorem T_X36 : T i_X36 = some X36 := rfl
theorem T_X49 : T i_X49 = some X49 := rfl
theorem T_X50 : T i_X50 = some X50 := rfl
theorem T_X29 : T i_X29 = some X29 := rfl
theorem T_X44 : T i_X44 = some X44 := rfl
theorem T_X30 : T i_X30 = some X30 := rfl
theorem T_X45 : T i_X45 = some X45 := rfl
theorem T_X47 : T i_X47 = some X47 := rfl
theorem T_X39 : T i_X39 = some X39 := rfl
theorem T_X43 : T i_X43 = some X43 := rfl
theorem T_X32 : T i_X32 = some X32 := rfl
theorem T_X48 : T i_X48 = some X48 := rfl
theorem T_X15 : T i_X15 = some X15 := rfl
theorem T_X55 : T i_X55 = some X55 := rfl
theorem T_X53 : T i_X53 = some X53 := rfl
theorem T_X52 : T i_X52 = some X52 := rfl
theorem T_X21 : T i_X21 = some X21 := rfl
theorem T_X37 : T i_X37 = some X37 := rfl
theorem T_X27 : T i_X27 = some X27 := rfl
theorem T_X38 : T i_X38 = some X38 := rfl
theorem T_X34 : T i_X34 = some X34 := rfl
theorem T_X31 : T i_X31 = some X31 := rfl
theorem T_X54 : T i_X54 = some X54 := rfl
theorem T_X24 : T i_X24 = some X24 := rfl
theorem T_X46 : T i_X46 = some X46 := rfl
theorem T_X51 : T i_X51 = some X51 := rfl
theorem T_X20 : T i_X20 = some X20 := rfl
theorem T_X35 : T i_X35 = some X35 := rfl
theorem T_X26 : T i_X26 = some X26 := rfl
theorem T_X16 : T i_X16 = some X16 := rfl
theorem T_X11 : T i_X11 = some X11 := rfl
theorem T_X33 : T i_X33 = some X33 := rfl
theorem T_X0 : T i_X0 = some X0 := rfl
theorem T_X25 : T i_X25 = some X25 := rfl
theorem T_X40 : T i_X40 = some X40 := rfl
theorem T_X42 : T i_X42 = some X42 := rfl
theorem T_X23 : T i_X23 = some X23 := rfl
theorem T_X28 : T i_X28 = some X28 := rfl
theorem T_X1 : T i_X1 = some X1 := rfl
theorem T_X18 : T i_X18 = some X18 := rfl
theorem T_X41 : T i_X41 = some X41 := rfl
theorem T_X22 : T i_X22 = some X22 := rfl
theorem T_X12 : T i_X12 = some X12 := rfl
theorem T_X19 : T i_X19 = some X19 := rfl
theorem T_X5 : T i_X5 = some X5 := rfl
theorem T_X10 : T i_X10 = some X10 := rfl
theorem T_X9 : T i_X9 = some X9 := rfl
theorem T_X7 : T i_X7 = some X7 := rfl
theorem T_X17 : T i_X17 = some X17 := rfl
theorem T_X2 : T i_X2 = some X2 := rfl
theorem T_X3 : T i_X3 = some X3 := rfl
theorem T_X4 : T i_X4 = some X4 := rfl
theorem T_X13 : T i_X13 = some X13 := rfl
theorem T_X8 : T i_X8 = some X8 := rfl
end Go.Abs
