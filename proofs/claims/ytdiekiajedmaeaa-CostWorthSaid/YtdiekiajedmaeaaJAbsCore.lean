/- Parts of the proof: AbsCore, AbsDet, AbsMono, AbsRun, AbsEnv. -/
import GoSem.Core.Code
import GoSem.Op.String
import Derived.Attr
set_option linter.all false
/- An abstract machine for the model's Code: values as trees, a small store, one text order. -/
namespace Go.Abs
open Go

inductive AVal where
 | und
 | bool (b : Bool)
 | int (k : IntKind) (n : Int)
 | str (s : ByteArray)
 | nils
 | emp
 | list (k : Nat) (xs : List AVal)
 | ref (o gen off len k : Nat)
 | nilp
 | fptr (cs : List AVal)
 | ptr (o gen off : Nat)
 | nilm
 | fmap (ks vs : List AVal)
 | map (o : Nat)
 | nilf
 | clo (f : Fn) (first captured : List AVal)
 | nili
 | iface (t : TypeId) (v : AVal)
 | agg (cs : List AVal)
 | tup (vs : List AVal)
 | yld (o : Nat)   -- the 'yield' of the range over a function that object o stands for
 deriving Inhabited

def AVal.cells : AVal → List AVal
 | .agg cs => cs
 | v => [v]

def AVal.one : AVal → Bool
 | .und | .agg _ | .tup _ => false
 | _ => true

def AVal.fits (n : Nat) : AVal → Bool
 | .und | .tup _ => false
 | .agg cs => cs.length == n && cs.all AVal.one
 | _ => n == 1

mutual
def AVal.names (p : Nat → Bool) : AVal → Bool
 | .ref o .. | .ptr o .. | .map o | .yld o => p o
 | .clo _ a b => AVal.namesL p a && AVal.namesL p b
 | .iface _ v => v.names p
 | .agg cs => AVal.namesL p cs
 | .tup vs => AVal.namesL p vs
 | _ => true
def AVal.namesL (p : Nat → Bool) : List AVal → Bool
 | [] => true
 | v :: vs => v.names p && AVal.namesL p vs
end
abbrev AVal.pure (v : AVal) : Bool := v.names fun _ => false
abbrev AVal.pures (vs : List AVal) : Bool := AVal.namesL (fun _ => false) vs
abbrev AVal.under (l : Nat) (v : AVal) : Bool := v.names fun o => decide (o < l)
abbrev AVal.unders (l : Nat) (vs : List AVal) : Bool := AVal.namesL (fun o => decide (o < l)) vs

mutual
def AVal.flat : AVal → Bool
 | .ref .. | .ptr .. | .map _ | .list .. | .fptr _ | .fmap .. | .emp | .yld _ => false
 | .clo _ a b => AVal.flats a && AVal.flats b
 | .iface _ v => v.flat
 | .agg cs => AVal.flats cs
 | .tup vs => AVal.flats vs
 | _ => true
def AVal.flats : List AVal → Bool
 | [] => true
 | v :: vs => v.flat && AVal.flats vs
end

def AVal.isUnd : AVal → Bool
 | .und => true
 | _ => false

abbrev Env := List AVal

inductive Opd where
 | tmp (t : Nat)
 | cst (v : AVal)
 deriving Inhabited

def ev (e : Env) : Opd → AVal
 | .tmp t => e.getD t .und
 | .cst v => v

inductive Shape where
 | bool | int (k : IntKind) | str
 | row (parts : List (Nat × Nat × Bool × Shape))   -- each part: offset, size, is it an aggregate
 deriving Inhabited

inductive LenK where
 | str | sl | mp
 deriving Inhabited

inductive NilK where
 | sl | mp | fn | pt
 deriving DecidableEq, Inhabited

inductive AOp where
 | mv (x : Opd)
 | pick (c a b : Opd)
 | alloc (zero : List AVal)
 | box (n : Nat) (x : Opd)
 | build (zero : List AVal) (parts : List (Nat × Nat × Opd))
 | bslice (k len : Nat) (zero : List AVal) (parts : List (Nat × Opd))
 | flist (k len : Nat) (zero : List AVal) (parts : List (Nat × Opd))   -- the same, where nobody writes to it
 | load (agg : Bool) (n : Nat) (x : Opd)
 | store (n : Nat) (a v : Opd)
 | nilck (x : Opd)
 | bin (op : BinOp) (x y : Opd)
 | eqs (neg : Bool) (sh : Shape) (x y : Opd)
 | eqnil (neg : Bool) (kd : NilK) (x : Opd)
 | eqp (neg : Bool) (x y : Opd)   -- two pointers
 | un (op : UnOp) (x : Opd)
 | conv (k : IntKind) (x : Opd)
 | same (x : Opd)
 | mkif (t : TypeId) (x : Opd)
 | mkfn (f : Fn) (first captured : List Opd)
 | mkmap
 | mkslice (k bytes : Nat) (zero : List AVal) (l c : Opd)
 | slice (k : Nat) (x : Opd) (lo hi mx : Option Opd)
 | slstr (x : Opd) (lo hi : Option Opd)
 | slarr (n k : Nat) (x : Opd) (lo hi : Option Opd)
 | faddr (off : Nat) (x : Opd)
 | field (off size : Nat) (agg : Bool) (x : Opd)
 | iaddr (k : Nat) (x i : Opd)
 | iaddrA (n k : Nat) (x i : Opd)
 | idxA (n k : Nat) (agg : Bool) (x i : Opd)
 | idxS (x i : Opd)
 | lookup (sh : Shape) (zero : AVal) (ok : Bool) (m i : Opd)
 | mapup (sh : Shape) (m k v : Opd)
 | extr (x : Opd) (i : Nat)
 | len (kd : LenK) (x : Opd)
 | cap (x : Opd)
 | append (k bytes : Nat) (s x : Opd)
 | appendz (k bytes : Nat) (zero : List AVal) (s x : Opd)
 | appendF (k bytes : Nat) (s x : Opd)   -- the same, where nobody writes to the result
 | copy (k : Nat) (d s : Opd)
 | clear (zero : List AVal) (x : Opd)
 | delete (sh : Shape) (m k : Opd)
 | minmax (isMax : Bool) (xs : List Opd)
 | arrp (n k : Nat) (x : Opd)
 | mapent (sh : Shape) (zero : AVal) (m k : Opd)   -- the entry of a key: its value, its number
 | entst (m s v : Opd)   -- a value into the entry of a number
 | mkslF (k bytes : Nat) (zero : List AVal) (l c : Opd)   -- mkslice, where nobody writes to it
 | allocn (zero : List AVal) (off k : Nat)   -- alloc, where the nil at off is a slice that can grow
 | call (isPure : Bool) (f : FuncId) (args : List Opd)
 | callv (isPure : Bool) (x : Opd) (args : List Opd)
 | unsup
 deriving Inhabited

structure AOper where
 dst : Option Nat
 op : AOp
 guard : Option (Option Nat × Bool)   -- the place of the guard's value
 after : List Nat
 reads : List Nat
 deriving Inhabited

inductive Ghost where
 | kill (ts : List Nat)
 | freeze (t : Nat)
 | nilref (t k : Nat)
 | nilagg (t off k : Nat)   -- a nil part of an aggregate becomes a slice that can grow
 | dfreeze (t : Nat)   -- freezes t with all that it names
 | inner (t : Nat)   -- freezes all that t's object names
 deriving Inhabited

inductive GOp where
 | op (o : AOper)
 | gh (g : Ghost)
 deriving Inhabited

def GOp.oper? : GOp → Option AOper
 | .op o => some o
 | .gh _ => none

structure SepC where
 ws : List Nat
 ps : List Nat
 chk : List (List Nat × List Nat)
 deriving Inhabited

def AVal.apart (u v : AVal) : Bool := !v.isUnd && u.names fun o => v.names fun q => decide (o ≠ q)
def AVal.there : AVal → Bool
 | .nils | .emp => false
 | _ => true
def ZeH (s : SepC) (e : Env) : Bool := s.ws.all (fun t => (e.getD t .und).there) && s.ps.all (fun t => (e.getD t .und).pure) && s.chk.all fun p => p.1.all fun x => p.2.all fun y => (e.getD x .und).apart (e.getD y .und)

def ZaL {α : Type} (c m : Nat) (l : List α) : List α := l.take c ++ (l.drop m).take 1 ++ (l.drop c).take (m - c) ++ l.drop (m + 1)

inductive ACode where
 | skip
 | region (draw : Bool) (ops : List AOper)
 | regionG (xs : List GOp)
 | regionD (s : SepC) (ops : List AOper)
 | regionA (c m : Nat) (ops : List AOper)   -- either of c and m may come first
 | seq (a b : ACode)
 | cond (c : Opd) (thn els : ACode)
 | block (id : Nat) (body : ACode)
 | loop (body : ACode)
 | exit (id : Nat)
 | ret
 | trunc (body : ACode)
 | scope (body : ACode)
 | ghost (g : Ghost)
 | rangeF (x : Opd) (ps : List Nat) (body : ACode)   -- for ps := range x { body }
 deriving Inhabited

inductive AExit where
 | normal
 | exit (id : Nat)
 | ret
 deriving DecidableEq, Inhabited

inductive LSt where
 | ready
 | busy
 | done (x : AExit)
 deriving Inhabited

inductive AObj where
 | cells (nl : Bool) (cs : List AVal)
 | map (ks vs : List AVal)
 | loop (ps : List Nat) (body : ACode) (e : Env) (st : LSt)   -- a range over a function
 | dead
 deriving Inhabited

abbrev Sto := List AObj

def AObj.under (l : Nat) : AObj → Bool
 | .cells _ cs => AVal.unders l cs
 | .map ks vs => AVal.unders l ks && AVal.unders l vs
 | .loop _ _ e _ => AVal.unders l e
 | .dead => true

def put (e : Env) : Option Nat → AVal → Env
 | some d, v => e.set d v
 | none, _ => e

def Zbe (op : BinOp) (k : IntKind) (a b : Int) : Option AVal :=
 match op with
 | .add => some (.int k (k.wrap (a + b)))
 | .sub => some (.int k (k.wrap (a - b)))
 | .mul => some (.int k (k.wrap (a * b)))
 | .quo => if b = 0 then none else some (.int k (k.wrap (a.tdiv b)))
 | .rem => if b = 0 then none else some (.int k (a.tmod b))
 | .and => some (.int k (k.wrap (BitVec.ofInt k.bits a &&& BitVec.ofInt k.bits b).toNat))
 | .or => some (.int k (k.wrap (BitVec.ofInt k.bits a ||| BitVec.ofInt k.bits b).toNat))
 | .xor => some (.int k (k.wrap (BitVec.ofInt k.bits a ^^^ BitVec.ofInt k.bits b).toNat))
 | .andNot => some (.int k (k.wrap (BitVec.ofInt k.bits a &&& ~~~BitVec.ofInt k.bits b).toNat))
 | .eql => some (.bool (a == b))
 | .neq => some (.bool (a != b))
 | .lss => some (.bool (a < b))
 | .leq => some (.bool (a ≤ b))
 | .gtr => some (.bool (a > b))
 | .geq => some (.bool (a ≥ b))
 | _ => none

def Zoj (op : BinOp) (x y : ByteArray) : Option AVal :=
 match op with
 | .add => if ((x.size + y.size : Nat) : Int) ≤ IntKind.i64.max then some (.str (x ++ y)) else none
 | .eql => some (.bool (x.toList == y.toList))
 | .neq => some (.bool !(x.toList == y.toList))
 | .lss => some (.bool (Op.bytesLess x.toList y.toList))
 | .leq => some (.bool (Op.bytesLess x.toList y.toList || x.toList == y.toList))
 | .gtr => some (.bool !(Op.bytesLess x.toList y.toList || x.toList == y.toList))
 | .geq => some (.bool !(Op.bytesLess x.toList y.toList))
 | _ => none

def ZcE (op : BinOp) (x y : AVal) : Option AVal :=
 match x, y with
 | .int k a, .int yk b =>
  match op with
  | .shl => if b < 0 then none else some (.int k (k.wrap (a * 2 ^ (min b.toNat k.bits))))
  | .shr => if b < 0 then none else some (.int k (a.fdiv (2 ^ (min b.toNat k.bits))))
  | _ => if k = yk then Zbe op k a b else none
 | .str a, .str b => Zoj op a b
 | _, _ => none

def unA (op : UnOp) (x : AVal) : Option AVal :=
 match op, x with
 | .neg, .int k n => some (.int k (k.wrap (0 - n)))
 | .xor, .int k n => some (.int k (k.wrap (BitVec.ofInt k.bits (if k.signed then -1 else k.max) ^^^ BitVec.ofInt k.bits n).toNat))
 | .not, .bool b => some (.bool !b)
 | _, _ => none

mutual
def eqA : Shape → AVal → AVal → Option Bool
 | .bool, .bool a, .bool b => some (a == b)
 | .int _, .int k a, .int k' b => if k = k' then some (a == b) else none
 | .str, .str a, .str b => some (a == b)
 | .row ps, .agg xs, .agg ys => eqParts ps xs ys
 | _, _, _ => none
def eqParts : List (Nat × Nat × Bool × Shape) → List AVal → List AVal → Option Bool
 | [], _, _ => some true
 | (off, n, agg, sh) :: ps, xs, ys =>
  match (if agg then some (AVal.agg ((xs.drop off).take n)) else xs[off]?), (if agg then some (AVal.agg ((ys.drop off).take n)) else ys[off]?) with
  | some x, some y =>
   match eqA sh x y with
   | some true => eqParts ps xs ys
   | r => r
  | _, _ => none
end

def Zhw : AVal → AVal → Bool
 | .bool a, .bool b => a == b
 | .int j a, .int k b => j == k && a == b
 | .str a, .str b => a == b
 | _, _ => false
def ZeI : List AVal → List AVal → Bool
 | [], [] => true
 | x :: xs, y :: ys => Zhw x y && ZeI xs ys
 | _, _ => false
def Zhx : AVal → AVal → Bool
 | .agg xs, .agg ys => ZeI xs ys
 | x, y => Zhw x y

def Zbm (sh : Shape) (k : AVal) : List AVal → Nat → Option (Option Nat)
 | [], _ => some none
 | x :: ks, i =>
  match eqA sh k x with
  | some true => some (some i)
  | some false => Zbm sh k ks (i + 1)
  | none => none

def ZaM (agg : Bool) (n : Nat) (cs : List AVal) : Option AVal :=
 if agg then (if n ≤ cs.length then some (.agg (cs.take n)) else none) else cs.head?

def Zl (cs : List AVal) (off : Nat) (new : List AVal) : List AVal :=
 cs.take off ++ new ++ cs.drop (off + new.length)

def Zbw (cells : List AVal) : List (Nat × Nat × AVal) → Option (List AVal)
 | [] => some cells
 | (off, size, v) :: rest => if v.fits size && decide (off + size ≤ cells.length) then Zbw (Zl cells off v.cells) rest else none

def ZY (k : Nat) : Nat → List AVal → List AVal
 | 0, _ => []
 | n + 1, cs => (if k = 1 then cs.headD .und else .agg (cs.take k)) :: ZY k n (cs.drop k)

def Zai (σ : Sto) : AVal → Option (Nat × List AVal)
 | .nils | .emp => some (0, [])
 | .list _ xs => some (xs.length, xs.flatMap AVal.cells)
 | .ref o gen off len k =>
  match σ[o]? with
  | some (.cells _ cs) => if cs.length = gen then some (len, (cs.drop off).take (len * k)) else none
  | _ => none
 | _ => none

def Zbn : AVal → Option Nat
 | .int _ n => if 0 ≤ n then some n.toNat else none
 | _ => none

def Zam (e : Env) (x : Option Opd) (d : Nat) : Option Nat :=
 match x with
 | some o => Zbn (ev e o)
 | none => some d

def ZbH (lv : List Nat) (o : Nat) (vs : List AVal) : Bool :=
 lv.all fun l => decide (l ≤ o) || AVal.unders l vs

def Zm : Nat := 140737488355328

def Zc (lv : List Nat) (op : AOp) (e : Env) (σ : Sto) : Option (AVal × Sto) :=
 match op with
 | .mv x => some (ev e x, σ)
 | .pick c a b =>
  match ev e c with
  | .bool t => some (if t then ev e a else ev e b, σ)
  | _ => none
 | .alloc zero => some (.ptr σ.length zero.length 0, σ ++ [.cells false zero])
 | .box n x => if (ev e x).fits n then some (.ptr σ.length n 0, σ ++ [.cells false (ev e x).cells]) else none
 | .build zero parts => (Zbw zero (parts.map fun (o, s, x) => (o, s, ev e x))).map fun cs => (.agg cs, σ)
 | .bslice k len zero parts =>
  (Zbw (List.replicate len zero).flatten (parts.map fun (i, x) => (i * k, k, ev e x))).map fun cs => (.ref σ.length cs.length 0 len k, σ ++ [.cells false cs])
 | .flist k len zero parts =>
  (Zbw (List.replicate len zero).flatten (parts.map fun (i, x) => (i * k, k, ev e x))).bind fun cs => if AVal.pures cs = true ∧ cs.length = len * k ∧ 0 < k then some (.list k (ZY k len cs), σ) else none
 | .load agg n x =>
  match ev e x with
  | .fptr cs => (ZaM agg n cs).map (·, σ)
  | .ptr o gen off =>
   match σ[o]? with
   | some (.cells _ cs) => if cs.length = gen then (ZaM agg n (cs.drop off)).map (·, σ) else none
   | _ => none
  | _ => none
 | .store n a v =>
  match ev e a with
  | .ptr o gen off =>
   match σ[o]? with
   | some (.cells nl cs) =>
    if cs.length = gen ∧ off + n ≤ gen ∧ (ev e v).fits n ∧ ZbH lv o (ev e v).cells then
     some (.und, σ.set o (.cells nl (Zl cs off (ev e v).cells))) else none
   | _ => none
  | _ => none
 | .nilck x =>
  match ev e x with
  | .ptr .. | .fptr _ | .clo (.func _) _ _ => some (ev e x, σ)
  | _ => none
 | .bin op x y => (ZcE op (ev e x) (ev e y)).map (·, σ)
 | .eqs neg sh x y => (eqA sh (ev e x) (ev e y)).map fun b => (.bool (if neg then !b else b), σ)
 | .eqnil neg kd x =>
  match kd, ev e x with
  | .sl, .nils | .pt, .nilp | .mp, .nilm | .fn, .nilf => some (.bool !neg, σ)
  | .sl, .emp | .sl, .list .. | .fn, .clo .. | .pt, .fptr _ | .mp, .fmap .. | .pt, .ptr .. | .mp, .map _ => some (.bool neg, σ)
  | .sl, .ref o gen _ _ _ =>
   match σ[o]? with
   | some (.cells nl cs) => if cs.length = gen then some (.bool (if nl && cs.isEmpty then !neg else neg), σ) else none
   | _ => none
  | _, _ => none
 | .eqp neg x y =>
  match ev e x, ev e y with
  | .nilp, .nilp => some (.bool !neg, σ)
  | .nilp, .ptr .. | .ptr .., .nilp => some (.bool neg, σ)
  | .ptr o gen off, .ptr o' gen' off' =>
   match σ[o]?, σ[o']? with
   | some (.cells _ cs), some (.cells _ cs') =>
    if cs.length = gen ∧ cs'.length = gen' then some (.bool (if neg then !decide (o = o' ∧ off = off') else decide (o = o' ∧ off = off')), σ) else none
   | _, _ => none
  | _, _ => none
 | .un op x => (unA op (ev e x)).map (·, σ)
 | .conv k x =>
  match ev e x with
  | .int _ n => some (.int k (k.wrap n), σ)
  | _ => none
 | .same x =>
  match ev e x with
  | .str s => some (.str s, σ)
  | _ => none
 | .mkif t x => if (ev e x).isUnd then none else some (.iface t (ev e x), σ)
 | .mkfn f first captured => some (.clo f (first.map (ev e)) (captured.map (ev e)), σ)
 | .mkmap => some (.map σ.length, σ ++ [.map [] []])
 | .mkslice k bytes zero l c =>
  match ev e l, ev e c with
  | .int _ l, .int _ c =>
   if 0 ≤ l ∧ l ≤ c ∧ bytes * c.toNat ≤ 2 * Zm ∧ c ≤ IntKind.i64.max then
    some (.ref σ.length (c.toNat * k) 0 l.toNat k, σ ++ [.cells false (List.replicate c.toNat zero).flatten]) else none
  | _, _ => none
 | .slice k x lo hi mx =>
  match ev e x with
  | .nils => if Zam e lo 0 = some 0 ∧ Zam e hi 0 = some 0 ∧ Zam e mx 0 = some 0 then some (.nils, σ) else none
  | .list k' xs =>
   match Zam e lo 0, Zam e hi xs.length, Zam e mx xs.length with
   | some l, some h, some m =>
    if l ≤ h ∧ h ≤ m ∧ m ≤ xs.length ∧ k = k' then (if m = 0 ∧ mx.isSome then some (.emp, σ) else some (.list k ((xs.take h).drop l), σ)) else none
   | _, _, _ => none
  | .ref o gen off len k' =>
   match σ[o]? with
   | some (.cells nl cs) =>
    if cs.length = gen ∧ k = k' ∧ 0 < k then
     if nl && cs.isEmpty then
      (if Zam e lo 0 = some 0 ∧ Zam e hi 0 = some 0 ∧ Zam e mx 0 = some 0 then some (.nils, σ) else none)
     else
     match mx with
     | none =>
      match Zam e lo 0, Zam e hi len with
      | some l, some h => if l ≤ h ∧ off + h * k ≤ gen then (if off + l * k = gen then some (.list k [], σ) else some (.ref o gen (off + l * k) (h - l) k, σ)) else none
      | _, _ => none
     | some _ =>
      match Zam e lo 0, Zam e hi len, Zam e mx 0 with
      | some l, some h, some m => if l ≤ h ∧ h ≤ m ∧ off + m * k ≤ gen then some (if m = 0 then .emp else .und, σ) else none
      | _, _, _ => none
    else none
   | _ => none
  | _ => none
 | .slstr x lo hi =>
  match ev e x with
  | .str s =>
   match Zam e lo 0, Zam e hi s.size with
   | some l, some h => if l ≤ h ∧ h ≤ s.size then some (.str (s.extract l h), σ) else none
   | _, _ => none
  | _ => none
 | .slarr n k x lo hi =>
  match ev e x, Zam e lo 0, Zam e hi n with
  | .ptr o gen off, some l, some h =>
   match σ[o]? with
   | some (.cells false cs) =>
    if cs.length = gen ∧ l ≤ h ∧ h ≤ n ∧ off + n * k = gen ∧ 0 < k then (if l = n then some (.list k [], σ) else some (.ref o gen (off + l * k) (h - l) k, σ)) else none
   | _ => none
  | .fptr cs, some l, some h => if l ≤ h ∧ h ≤ n ∧ n * k ≤ cs.length ∧ 0 < k then some (.list k (ZY k (h - l) (cs.drop (l * k))), σ) else none
  | _, _, _ => none
 | .faddr off x =>
  match ev e x with
  | .ptr o gen a => some (.ptr o gen (a + off), σ)
  | .fptr cs => some (.fptr (cs.drop off), σ)
  | _ => none
 | .field off size agg x =>
  match ev e x with
  | .agg cs => if off + size ≤ cs.length then (ZaM agg size (cs.drop off)).map (·, σ) else none
  | _ => none
 | .iaddr k x i =>
  match ev e x, Zbn (ev e i) with
  | .list k' xs, some i => if k = k' then (xs[i]?).map fun v => (.fptr v.cells, σ) else none
  | .ref o gen off len k', some i =>
   match σ[o]? with
   | some (.cells _ cs) => if i < len ∧ k = k' ∧ cs.length = gen then some (.ptr o gen (off + i * k), σ) else none
   | _ => none
  | _, _ => none
 | .iaddrA n k x i =>
  match ev e x, Zbn (ev e i) with
  | .ptr o gen off, some i => if i < n then some (.ptr o gen (off + i * k), σ) else none
  | .fptr cs, some i => if i < n then some (.fptr (cs.drop (i * k)), σ) else none
  | _, _ => none
 | .idxA n k agg x i =>
  match ev e x, Zbn (ev e i) with
  | .agg cs, some i => if i < n ∧ i * k + k ≤ cs.length then (ZaM agg k (cs.drop (i * k))).map (·, σ) else none
  | _, _ => none
 | .idxS x i =>
  match ev e x, Zbn (ev e i) with
  | .str s, some i => (s[i]?).map fun b => (.int .u8 b.toNat, σ)
  | _, _ => none
 | .lookup sh zero ok m i =>
  let res (v : AVal) (b : Bool) : AVal := if ok then .tup [v, .bool b] else v
  let look (ks vs : List AVal) : Option (AVal × Sto) :=
   if eqA sh (ev e i) (ev e i) = some true then
    match Zbm sh (ev e i) ks 0 with
    | some (some j) => (vs[j]?).map fun v => (res v true, σ)
    | some none => some (res zero false, σ)
    | none => none
   else none
  match ev e m with
  | .nilm => look [] []
  | .fmap ks vs => look ks vs
  | .map o =>
   match σ[o]? with
   | some (.map ks vs) => look ks vs
   | _ => none
  | _ => none
 | .mapup sh m k v =>
  match ev e m with
  | .map o =>
   match σ[o]? with
   | some (.map ks vs) =>
    if ZbH lv o [ev e k, ev e v] ∧ eqA sh (ev e k) (ev e k) = some true then
     match Zbm sh (ev e k) ks 0 with
     | some (some j) => if Zhx (ev e k) (ks.getD j .und) then some (.und, σ.set o (.map ks (vs.set j (ev e v)))) else none
     | some none => some (.und, σ.set o (.map (ks ++ [ev e k]) (vs ++ [ev e v])))
     | none => none
    else none
   | _ => none
  | _ => none
 | .extr x i =>
  match ev e x with
  | .tup vs => (vs[i]?).map (·, σ)
  | _ => none
 | .len kd x =>
  match kd, ev e x with
  | .sl, .nils | .sl, .emp | .mp, .nilm => some (.int .i64 0, σ)
  | .sl, .list _ xs => some (.int .i64 xs.length, σ)
  | .str, .str s => some (.int .i64 s.size, σ)
  | .mp, .fmap ks _ => some (.int .i64 ks.length, σ)
  | .sl, .ref o gen _ len _ =>
   match σ[o]? with
   | some (.cells _ cs) => if cs.length = gen then some (.int .i64 len, σ) else none
   | _ => none
  | .mp, .map o =>
   match σ[o]? with
   | some (.map ks _) => some (.int .i64 ks.length, σ)
   | _ => none
  | _, _ => none
 | .cap x =>
  match ev e x with
  | .nils | .emp => some (.int .i64 0, σ)
  | _ => none
 | .unsup => none
 | .append k bytes s x =>
  match Zai σ (ev e x) with
  | none => none
  | some (m, new) =>
   if new.length = m * k ∧ 0 < k ∧ new.all AVal.one then
    match ev e s with
    | .nils | .emp => if m = 0 then some (ev e s, σ) else if m * bytes ≤ Zm then some (.ref σ.length (m * k) 0 m k, σ ++ [.cells false new]) else none
    | .ref o gen off len k' =>
     match σ[o]? with
     | some (.cells nl cs) =>
      if cs.length = gen ∧ k = k' ∧ ZbH lv o new then
       if m = 0 then some (ev e s, σ)
       else if off + (len + m) * k ≤ gen then some (.ref o gen off (len + m) k, σ.set o (.cells nl (Zl cs (off + len * k) new)))
       else if off = 0 ∧ (len + m) * bytes ≤ Zm then some (.ref o ((len + m) * k) 0 (len + m) k, σ.set o (.cells nl (cs.take (len * k) ++ new)))
       else none
      else none
     | _ => none
    | _ => none
   else none
 | .appendF k bytes s x =>
  match Zai σ (ev e x), ev e s with
  | some (m, new), .ref o gen off len k' =>
   match σ[o]? with
   | some (.cells false cs) =>
    if new.length = m * k ∧ 0 < k ∧ new.all AVal.one ∧ cs.length = gen ∧ k = k' ∧ ZbH lv o new ∧ off = 0 ∧ len * k = gen ∧ (len + m) * bytes ≤ Zm ∧ AVal.pures (cs ++ new) then
     some (.list k (ZY k (len + m) (cs ++ new)), σ.set o .dead)
    else none
   | _ => none
  | _, _ => none
 | .appendz k bytes zero s x =>
  match ev e s, ev e x with
  | .nils, .int .i64 n =>
   if 0 ≤ n ∧ n.toNat * bytes ≤ Zm ∧ 0 < k then
    (if n = 0 then some (.nils, σ) else some (.ref σ.length (n.toNat * k) 0 n.toNat k, σ ++ [.cells false (List.replicate n.toNat zero).flatten])) else none
  | .ref o gen off len k', .int .i64 n =>
   match σ[o]? with
   | some (.cells nl cs) =>
    if 0 ≤ n ∧ (len + n.toNat) * bytes ≤ Zm ∧ 0 < k ∧ cs.length = gen ∧ k = k' ∧ off = 0 ∧ len * k = gen ∧ AVal.pures zero then
     some (.ref o ((len + n.toNat) * k) 0 (len + n.toNat) k, σ.set o (.cells nl (cs ++ (List.replicate n.toNat zero).flatten))) else none
   | _ => none
  | _, _ => none
 | .copy k d s =>
  match ev e d, Zai σ (ev e s) with
  | .nils, some _ => some (.int .i64 0, σ)
  | .ref o gen off len k', some (m, src) =>
   match σ[o]? with
   | some (.cells nl cs) =>
    if cs.length = gen ∧ k = k' ∧ src.length = m * k ∧ off + len * k ≤ gen ∧ ZbH lv o src ∧ src.all AVal.one then
     some (.int .i64 (min m len : Nat), σ.set o (.cells nl (Zl cs off (src.take (min m len * k))))) else none
   | _ => none
  | _, _ => none
 | .clear zero x =>
  match ev e x with
  | .nils | .nilm | .emp => some (.tup [], σ)
  | .list _ [] => some (.tup [], σ)
  | .ref o gen off len k =>
   match σ[o]? with
   | some (.cells nl cs) =>
    if cs.length = gen ∧ k = zero.length ∧ off + len * k ≤ gen ∧ ZbH lv o zero then
     some (.tup [], σ.set o (.cells nl (Zl cs off (List.replicate len zero).flatten))) else none
   | _ => none
  | _ => none
 | .delete sh m k =>
  match ev e m with
  | .map o =>
   match σ[o]? with
   | some (.map ks vs) =>
    if eqA sh (ev e k) (ev e k) = some true then
     match Zbm sh (ev e k) ks 0 with
     | some (some j) => none   -- entries keep their numbers
     | some none => some (.tup [], σ)
     | none => none
    else none
   | _ => none
  | _ => none
 | .minmax isMax xs =>
  match xs.map (ev e) with
  | .int k a :: rest =>
   (rest.foldlM (fun (m : Int) (v : AVal) => match v with
    | .int _ y => some (if isMax then (if m < y then y else m) else (if y < m then y else m))
    | _ => none) a).map fun m => (.int k m, σ)
  | _ => none
 | .arrp n k x =>
  match ev e x with
  | .ref o gen off len k' =>
   match σ[o]? with
   | some (.cells false cs) => if cs.length = gen ∧ k = k' ∧ n ≤ len then some (.ptr o gen off, σ) else none
   | _ => none
  | .list k' xs => if n ≤ xs.length ∧ 0 < n ∧ k = k' then some (.fptr ((xs.take n).flatMap AVal.cells), σ) else none
  | _ => none
 | .mapent sh zero m k =>
  match ev e m with
  | .map o =>
   match σ[o]? with
   | some (.map ks vs) =>
    if ZbH lv o [ev e k, zero] ∧ eqA sh (ev e k) (ev e k) = some true then
     match Zbm sh (ev e k) ks 0 with
     | some (some j) => if Zhx (ev e k) (ks.getD j .und) then (vs[j]?).map fun v => (.tup [v, .int .i64 j], σ) else none
     | some none => some (.tup [zero, .int .i64 ks.length], σ.set o (.map (ks ++ [ev e k]) (vs ++ [zero])))
     | none => none
    else none
   | _ => none
  | _ => none
 | .entst m s v =>
  match ev e m, ev e s with
  | .map o, .int .i64 j =>
   match σ[o]? with
   | some (.map ks vs) => if 0 ≤ j ∧ j.toNat < vs.length ∧ ZbH lv o [ev e v] then some (.und, σ.set o (.map ks (vs.set j.toNat (ev e v)))) else none
   | _ => none
  | _, _ => none
 | .mkslF k bytes zero l c =>
  match ev e l, ev e c with
  | .int .i64 l, .int .i64 c =>
   if 0 ≤ l ∧ l = c ∧ bytes * c.toNat ≤ 2 * Zm ∧ c ≤ IntKind.i64.max ∧ zero.length = k ∧ 0 < k ∧ AVal.pures (List.replicate c.toNat zero).flatten = true then
    some (.list k (ZY k c.toNat (List.replicate c.toNat zero).flatten), σ) else none
  | _, _ => none
 | .allocn zero off k =>
  match zero[off]? with
  | some .nils => some (.ptr σ.length zero.length 0, σ ++ [.cells false (zero.set off (.ref (σ.length + 1) 0 0 0 k)), .cells true []])
  | _ => none
 | .call .. | .callv .. => none


def Zn (σ : Sto) : Nat → AVal → Option AVal
 | 0, _ => none
 | n + 1, v =>
  if v.pure then some v else
  match v with
  | .ref o gen off len k =>
   match σ[o]? with
   | some (.cells nl cs) =>
    if cs.length = gen ∧ off + len * k ≤ gen ∧ 0 < k then
     (if nl && cs.isEmpty then some .nils else (((cs.drop off).take (len * k)).mapM (Zn σ n)).map fun cs' => .list k (ZY k len cs'))
    else none
   | _ => none
  | .ptr o gen off =>
   match σ[o]? with
   | some (.cells _ cs) => if cs.length = gen then ((cs.drop off).mapM (Zn σ n)).map .fptr else none
   | _ => none
  | .map o =>
   match σ[o]? with
   | some (.map ks vs) =>
    match ks.mapM (Zn σ n), vs.mapM (Zn σ n) with
    | some ks', some vs' => some (.fmap ks' vs')
    | _, _ => none
   | _ => none
  | .clo f a b =>
   match a.mapM (Zn σ n), b.mapM (Zn σ n) with
   | some a', some b' => some (.clo f a' b')
   | _, _ => none
  | .iface t v => (Zn σ n v).map (.iface t)
  | .agg cs => (cs.mapM (Zn σ n)).map .agg
  | .tup vs => (vs.mapM (Zn σ n)).map .tup
  | _ => none

inductive ARes where
 | tmp (t : Nat)
 | cell (t : Nat) (agg : Bool) (n : Nat)
 deriving Inhabited

structure AFunc where
 ntmps : Nat
 results : List ARes
 code : ACode
 cut : Bool := false   -- what a shared call has made is gone when it returns
 deriving Inhabited

abbrev Zs := AVal → Sto → Prop
abbrev Zz := Bool → FuncId → List AVal → List Nat → Sto → Zs → Prop

def Zag : FuncId := 1000000000

def ZeJ : Fn → Bool
 | .func f => f != Zag
 | _ => true

def ZZ (cw : Zz) (lv : List Nat) (o : AOper) (e : Env) (σ : Sto) (K : Env → Sto → Prop) : Prop :=
 match o.op with
 | .call p f args => cw p f (args.map (ev e)) lv σ fun v σ' => K (put e o.dst v) σ'
 | .callv p x args =>
  match ev e x with
  | .clo (.func f) first captured => cw p f (first ++ args.map (ev e) ++ captured) lv σ fun v σ' => K (put e o.dst v) σ'
  | .yld l => p = false ∧ cw false Zag (.yld l :: args.map (ev e)) lv σ fun v σ' => K (put e o.dst v) σ'
  | _ => False
 | op =>
  match Zc lv op e σ with
  | some (v, σ') => K (put e o.dst v) σ'
  | none => False

def ZN (o : AOper) (e : Env) : Option Bool :=
 match o.guard with
 | none => some true
 | some (t, want) =>
  match t.bind (e[·]?) with
  | some (.bool b) => some (b == want)
  | some (.tup _) => some false   -- the operation that it hangs on was passed over itself
  | _ => none

abbrev ZaY : AVal := .tup []

def Zu (cw : Zz) (lv : List Nat) : List AOper → Env → Sto → (Env → Sto → Prop) → Prop
 | [], e, σ, K => K e σ
 | o :: os, e, σ, K =>
  match ZN o e with
  | some true => ZZ cw lv o e σ fun e' σ' => Zu cw lv os e' σ' K
  | some false => Zu cw lv os (put e o.dst ZaY) σ K
  | none => False

abbrev Zg := AExit → Env → Sto → Prop

def Zbx (body : Env → Sto → Zg → Prop) : Nat → Env → Sto → Zg → Prop
 | 0, _, _, _ => False
 | n + 1, e, σ, Q => body e σ fun x e' σ' => match x with
  | .normal => Zbx body n e' σ' Q
  | x => Q x e' σ'

def Zaj (n : Nat) (e : Env) : Env := e.map fun v => if v.under n then v else .und

def Zh : Nat := 64

def Zan (f : Sto → AVal → Option (AVal × Sto)) : Sto → List AVal → Option (List AVal × Sto)
 | σ, [] => some ([], σ)
 | σ, x :: xs =>
  match f σ x with
  | some (x', σ1) =>
   match Zan f σ1 xs with
   | some (xs', σ2) => some (x' :: xs', σ2)
   | none => none
  | none => none

def Zab : Nat → Sto → AVal → Option (AVal × Sto)
 | 0, _, _ => none
 | n + 1, σ, v =>
  if v.pure then some (v, σ) else
  match v with
  | .ref o gen off len k =>
   match σ[o]? with
   | some (.cells nl cs) =>
    if cs.length = gen ∧ off + len * k ≤ gen ∧ 0 < k then
     match Zan (Zab n) σ cs with
     | some (cs', σ1) =>
      match σ1[o]? with
      | some (.cells _ _) => some (if nl && cs.isEmpty then .nils else .list k (ZY k len ((cs'.drop off).take (len * k))), σ1.set o .dead)
      | _ => none
     | none => none
    else none
   | _ => none
  | .ptr o gen off =>
   match σ[o]? with
   | some (.cells _ cs) =>
    if cs.length = gen then
     match Zan (Zab n) σ cs with
     | some (cs', σ1) =>
      match σ1[o]? with
      | some (.cells _ _) => some (.fptr (cs'.drop off), σ1.set o .dead)
      | _ => none
     | none => none
    else none
   | _ => none
  | .clo f a b =>
   match Zan (Zab n) σ a with
   | some (a', σ1) =>
    match Zan (Zab n) σ1 b with
    | some (b', σ2) => some (.clo f a' b', σ2)
    | none => none
   | none => none
  | .agg cs =>
   match Zan (Zab n) σ cs with
   | some (cs', σ1) => some (.agg cs', σ1)
   | none => none
  | .tup cs =>
   match Zan (Zab n) σ cs with
   | some (cs', σ1) => some (.tup cs', σ1)
   | none => none
  | .map o =>
   match σ[o]? with
   | some (.map ks vs) =>
    if AVal.pures ks then
     match Zan (Zab n) σ vs with
     | some (vs', σ1) =>
      match σ1[o]? with
      | some (.map _ _) => some (.fmap ks vs', σ1.set o .dead)
      | _ => none
     | none => none
    else none
   | _ => none
  | _ => none

def ZdO (off k : Nat) (v : AVal) (n : Nat) : Option AVal := match v with
 | .agg cs => match cs[off]? with
  | some .nils => some (.agg (cs.set off (.ref n 0 0 0 k)))
  | _ => none
 | _ => none

def Zac (g : Ghost) (e : Env) (σ : Sto) : Option (Env × Sto) :=
 match g with
 | .kill ts => some (ts.foldl (fun e t => e.set t .und) e, σ)
 | .freeze t =>
  match e.getD t .und with
  | .ref o gen off len k =>
   match σ[o]? with
   | some (.cells nl cs) =>
    if cs.length = gen ∧ off + len * k ≤ gen ∧ 0 < k ∧ AVal.pures cs then
     some (e.set t (if nl && cs.isEmpty then .nils else .list k (ZY k len ((cs.drop off).take (len * k)))), σ.set o .dead)
    else none
   | _ => none
  | .ptr o gen off =>
   match σ[o]? with
   | some (.cells _ cs) => if cs.length = gen ∧ AVal.pures cs then some (e.set t (.fptr (cs.drop off)), σ.set o .dead) else none
   | _ => none
  | .map o =>
   match σ[o]? with
   | some (.map ks vs) => if AVal.pures ks ∧ AVal.pures vs then some (e.set t (.fmap ks vs), σ.set o .dead) else none
   | _ => none
  | v => if v.pure then some (e, σ) else none
 | .dfreeze t =>
  match Zab Zh σ (e.getD t .und) with
  | some (v, σ') => some (e.set t v, σ')
  | none => none
 | .inner t =>
  match e.getD t .und with
  | .ref o gen _ _ _ | .ptr o gen _ =>
   match σ[o]? with
   | some (.cells nl cs) =>
    if cs.length = gen then
     match Zan (Zab Zh) σ cs with
     | some (cs', σ1) =>
      match σ1[o]? with
      | some (.cells _ _) => some (e, σ1.set o (.cells nl cs'))
      | _ => none
     | none => none
    else none
   | _ => none
  | _ => none
 | .nilref t k =>
  match e.getD t .und with
  | .nils => some (e.set t (.ref σ.length 0 0 0 k), σ ++ [.cells true []])
  | _ => none
 | .nilagg t off k => (ZdO off k (e.getD t .und) σ.length).map fun v => (e.set t v, σ ++ [.cells true []])

def Zad (cw : Zz) (lv : List Nat) : List GOp → Env → Sto → (Env → Sto → Prop) → Prop
 | [], e, σ, K => K e σ
 | .op o :: os, e, σ, K => Zu cw lv [o] e σ fun e' σ' => Zad cw lv os e' σ' K
 | .gh g :: os, e, σ, K =>
  match Zac g e σ with
  | some (e', σ') => Zad cw lv os e' σ' K
  | none => False

def Z9 (o : Nat) (e : Env) (σ : Sto) (Q : Zg) : Prop :=
 match σ[o]? with
 | some (.loop _ _ _ .ready) => Q .normal e (σ.set o .dead)
 | some (.loop _ _ _ (.done x)) => Q x e (σ.set o .dead)
 | _ => False

def Zf (cw : Zz) (n : Nat) : List Nat → ACode → Env → Sto → Zg → Prop
 | _, .skip, e, σ, Q => Q .normal e σ
 | lv, .region _ ops, e, σ, Q => Zu cw lv ops e σ (Q .normal)
 | lv, .regionG xs, e, σ, Q => Zad cw lv xs e σ (Q .normal)
 | lv, .regionD s ops, e, σ, Q => Zu cw lv ops e σ fun e' σ' => ZeH s e' = true ∧ Q .normal e' σ'
 | lv, .regionA c m ops, e, σ, Q => Zu cw lv ops e σ fun e' σ' => Zu cw lv (ZaL c m ops) e σ (fun e2 σ2 => e2 = e' ∧ σ2 = σ') ∧ Q .normal e' σ'
 | lv, .seq a b, e, σ, Q => Zf cw n lv a e σ fun x e' σ' => match x with
  | .normal => Zf cw n lv b e' σ' Q
  | x => Q x e' σ'
 | lv, .cond c a b, e, σ, Q =>
  match ev e c with
  | .bool t => if t then Zf cw n lv a e σ Q else Zf cw n lv b e σ Q
  | _ => False
 | lv, .block id b, e, σ, Q => Zf cw n lv b e σ fun x e' σ' => match x with
  | .exit i => if i = id then Q .normal e' σ' else Q (.exit i) e' σ'
  | x => Q x e' σ'
 | lv, .loop b, e, σ, Q => Zbx (Zf cw n lv b) n e σ Q
 | lv, .scope b, e, σ, Q => Zf cw n lv b e σ Q
 | _, .exit id, e, σ, Q => Q (.exit id) e σ
 | _, .ret, e, σ, Q => Q .ret e σ
 | lv, .trunc b, e, σ, Q => Zf cw n lv b e σ fun x e' σ' => match x with
  | .ret => Q .ret e' σ'
  | x => (σ'.take σ.length).all (AObj.under σ.length) = true ∧ Q x (Zaj σ.length e') (σ'.take σ.length)
 | _, .ghost g, e, σ, Q =>
  match Zac g e σ with
  | some (e', σ') => Q .normal e' σ'
  | none => False
 | lv, .rangeF x ps body, e, σ, Q =>
  match ev e x with
  | .clo (.func g) first captured => cw false g (first ++ [.yld σ.length] ++ captured) lv (σ ++ [.loop ps body e .ready]) fun _ σ' => Z9 σ.length e σ' Q
  | _ => False

def Zhj (e : Env) (σ : Sto) : ARes → Option AVal
 | .tmp t => some (e.getD t .und)
 | .cell t agg n =>
  match e.getD t .und with
  | .ptr o gen off =>
   match σ[o]? with
   | some (.cells _ cs) => if cs.length = gen then ZaM agg n (cs.drop off) else none
   | _ => none
  | _ => none

def ZP (rs : List ARes) (e : Env) (σ : Sto) : Option AVal :=
 match rs.mapM (Zhj e σ) with
 | some [v] => some v
 | some vs => some (.tup vs)
 | none => none

def Zah (n : Nat) (args : List AVal) : Env := args ++ List.replicate (n - args.length) .und

def Zcp (af : AFunc) (x : AExit) (e : Env) (σ : Sto) (Q : Zs) : Prop :=
 match x with
 | .exit _ => False
 | _ =>
  match ZP af.results e σ with
  | some v => Q v σ
  | none => False

def ZdW (c : Bool) (n : Nat) (Q : Zs) : Zs := fun v σ => if c = true then v.under n = true ∧ (σ.take n).all (AObj.under n) = true ∧ Q v (σ.take n) else Q v σ

def Zb6 (e : Env) : List Nat → List AVal → Env
 | p :: ps, v :: vs => Zb6 (e.set p v) ps vs
 | _, _ => e

def Zak (o : Nat) (x : AExit) (σ : Sto) (Q : Zs) : Prop :=
 match σ[o]? with
 | some (.loop ps body e .busy) => Q (.bool (x == .normal)) (σ.set o (.loop ps body e (if x = .normal then .ready else .done x)))
 | _ => False

def Za5 (cw : Zz) (n : Nat) (args : List AVal) (lv : List Nat) (σ : Sto) (Q : Zs) : Prop :=
 match args with
 | .yld o :: ys =>
  match σ[o]? with
  | some (.loop ps body e .ready) => ys.length = ps.length ∧ Zf cw n lv body (Zb6 e ps ys) (σ.set o (.loop ps body e .busy)) fun x _ σ' => Zak o x σ' Q
  | _ => False
 | _ => False

def ZD (T : FuncId → Option AFunc) : Nat → Zz
 | 0, _, _, _, _, _, _ => False
 | n + 1, true, f, args, _, σ, Q =>
  match args.mapM (Zn σ Zh), T f with
  | some as, some af => Zf (ZD T n) n [] af.code (Zah af.ntmps as) [] fun x e σ' => Zcp af x e σ' fun v σ'' =>
    match Zn σ'' Zh v with
    | some v' => (AVal.pures args = true ∨ v'.flat = true) ∧ Q v' σ
    | none => False
  | _, _ => False
 | n + 1, false, f, args, lv, σ, Q =>
  match T f with
  | some af => Zf (ZD T n) n lv af.code (Zah af.ntmps args) σ fun x e σ' => Zcp af x e σ' (ZdW af.cut σ.length Q)
  | none => f = Zag ∧ Za5 (ZD T n) n args lv σ Q

end Go.Abs
/- The abstract machine goes one way. -/
namespace Go.Abs
open Go

def Det (cw : Zz) : Prop := ∀ (p : Bool) (f : FuncId) (args : List AVal) (lv : List Nat) (σ : Sto) (Q : Zs), cw p f args lv σ Q → ∃ v σ', Q v σ' ∧ ∀ {Q' : Zs}, Q' v σ' → cw p f args lv σ Q'

theorem Zkr {cw : Zz} (hD : Det cw) {lv : List Nat} {o : AOper} {e : Env} {σ : Sto} {K : Env → Sto → Prop} (h : ZZ cw lv o e σ K) : ∃ e' σ', K e' σ' ∧ ∀ {K' : Env → Sto → Prop}, K' e' σ' → ZZ cw lv o e σ K' := by
 unfold ZZ at h ⊢
 split at h
 ·obtain ⟨v, σ', h1, h2⟩ := hD _ _ _ _ _ _ h
  exact ⟨_, _, h1, fun hk => h2 hk⟩
 ·split at h
  ·obtain ⟨v, σ', h1, h2⟩ := hD _ _ _ _ _ _ h
   exact ⟨_, _, h1, fun hk => h2 hk⟩
  ·obtain ⟨hp, h⟩ := h
   obtain ⟨v, σ', h1, h2⟩ := hD _ _ _ _ _ _ h
   exact ⟨_, _, h1, fun hk => ⟨hp, h2 hk⟩⟩
  ·exact h.elim
 ·split at h
  ·exact ⟨_, _, h, fun hk => hk⟩
  ·exact h.elim

theorem Zbl {cw : Zz} (hD : Det cw) {lv : List Nat} : ∀ (os : List AOper) {e : Env} {σ : Sto} {K : Env → Sto → Prop}, Zu cw lv os e σ K → ∃ e' σ', K e' σ' ∧ ∀ {K' : Env → Sto → Prop}, K' e' σ' → Zu cw lv os e σ K'
 | [], e, σ, K, h => ⟨e, σ, h, fun hk => hk⟩
 | o :: os, e, σ, K, h => by
  simp only [Zu] at h ⊢
  split at h
  ·obtain ⟨e1, σ1, h1, h2⟩ := Zkr hD h
   obtain ⟨e2, σ2, h3, h4⟩ := Zbl hD os h1
   exact ⟨e2, σ2, h3, fun hk => h2 (h4 hk)⟩
  ·exact Zbl hD os h
  ·exact h.elim

theorem Zej {cw : Zz} (hD : Det cw) {lv : List Nat} : ∀ (os : List GOp) {e : Env} {σ : Sto} {K : Env → Sto → Prop}, Zad cw lv os e σ K → ∃ e' σ', K e' σ' ∧ ∀ {K' : Env → Sto → Prop}, K' e' σ' → Zad cw lv os e σ K'
 | [], e, σ, K, h => ⟨e, σ, h, fun hk => hk⟩
 | .op o :: os, e, σ, K, h => by
  simp only [Zad] at h ⊢
  obtain ⟨e1, σ1, h1, h2⟩ := Zbl hD _ h
  obtain ⟨e2, σ2, h3, h4⟩ := Zej hD os h1
  exact ⟨e2, σ2, h3, fun hk => h2 (h4 hk)⟩
 | .gh g :: os, e, σ, K, h => by
  simp only [Zad] at h ⊢
  split at h
  ·exact Zej hD os h
  ·exact h.elim

theorem Zja {body : Env → Sto → Zg → Prop} (hb : ∀ (e : Env) (σ : Sto) (Q : Zg), body e σ Q → ∃ x e' σ', Q x e' σ' ∧ ∀ {Q' : Zg}, Q' x e' σ' → body e σ Q') : ∀ (n : Nat) {e : Env} {σ : Sto} {Q : Zg},
  Zbx body n e σ Q → ∃ x e' σ', Q x e' σ' ∧ ∀ {Q' : Zg}, Q' x e' σ' → Zbx body n e σ Q'
 | 0, e, σ, Q, h => h.elim
 | n + 1, e, σ, Q, h => by
  simp only [Zbx] at h ⊢
  obtain ⟨x, e1, σ1, h1, h2⟩ := hb _ _ _ h
  cases x with
  | normal =>
   obtain ⟨x, e2, σ2, h3, h4⟩ := Zja hb n h1
   exact ⟨x, e2, σ2, h3, fun hk => h2 (h4 hk)⟩
  | exit i => exact ⟨_, _, _, h1, fun hk => h2 hk⟩
  | ret => exact ⟨_, _, _, h1, fun hk => h2 hk⟩

theorem ZeG {cw : Zz} (hD : Det cw) {n : Nat} : ∀ (c : ACode) {lv : List Nat} {e : Env} {σ : Sto} {Q : Zg}, Zf cw n lv c e σ Q → ∃ x e' σ', Q x e' σ' ∧ ∀ {Q' : Zg}, Q' x e' σ' → Zf cw n lv c e σ Q' := by
 intro c
 induction c with
 | skip => intro lv e σ Q h; exact ⟨_, _, _, h, fun hk => hk⟩
 | region d ops =>
  intro lv e σ Q h
  simp only [Zf] at h ⊢
  obtain ⟨e', σ', h1, h2⟩ := Zbl hD ops h
  exact ⟨_, _, _, h1, fun hk => h2 hk⟩
 | regionG ops =>
  intro lv e σ Q h
  simp only [Zf] at h ⊢
  obtain ⟨e', σ', h1, h2⟩ := Zej hD ops h
  exact ⟨_, _, _, h1, fun hk => h2 hk⟩
 | regionD s ops =>
  intro lv e σ Q h
  simp only [Zf] at h ⊢
  obtain ⟨e', σ', h1, h2⟩ := Zbl hD ops h
  exact ⟨_, _, _, h1.2, fun hk => h2 ⟨h1.1, hk⟩⟩
 | regionA c m ops =>
  intro lv e σ Q h
  simp only [Zf] at h ⊢
  obtain ⟨e', σ', h1, h2⟩ := Zbl hD ops h
  exact ⟨_, _, _, h1.2, fun hk => h2 ⟨h1.1, hk⟩⟩
 | seq a b iha ihb =>
  intro lv e σ Q h
  simp only [Zf] at h ⊢
  obtain ⟨x, e1, σ1, h1, h2⟩ := iha h
  cases x with
  | normal =>
   obtain ⟨x, e2, σ2, h3, h4⟩ := ihb h1
   exact ⟨x, e2, σ2, h3, fun hk => h2 (h4 hk)⟩
  | exit i => exact ⟨_, _, _, h1, fun hk => h2 hk⟩
  | ret => exact ⟨_, _, _, h1, fun hk => h2 hk⟩
 | cond c a b iha ihb =>
  intro lv e σ Q h
  simp only [Zf] at h ⊢
  split at h
  ·rename_i t ht
   cases t
   ·simp only [Bool.false_eq_true, if_false] at h ⊢; exact ihb h
   ·simp only [if_true] at h ⊢; exact iha h
  ·exact h.elim
 | block id b ih =>
  intro lv e σ Q h
  simp only [Zf] at h ⊢
  obtain ⟨x, e1, σ1, h1, h2⟩ := ih h
  cases x with
  | normal => exact ⟨_, _, _, h1, fun hk => h2 hk⟩
  | exit i =>
   simp only at h1
   split at h1
   ·rename_i hi; exact ⟨_, _, _, h1, fun hk => h2 (by simp only [if_pos hi]; exact hk)⟩
   ·rename_i hi; exact ⟨_, _, _, h1, fun hk => h2 (by simp only [if_neg hi]; exact hk)⟩
  | ret => exact ⟨_, _, _, h1, fun hk => h2 hk⟩
 | loop b ih =>
  intro lv e σ Q h
  simp only [Zf] at h ⊢
  exact Zja (fun _ _ _ h => ih h) n h
 | exit id => intro lv e σ Q h; exact ⟨_, _, _, h, fun hk => hk⟩
 | ret => intro lv e σ Q h; exact ⟨_, _, _, h, fun hk => hk⟩
 | trunc b ih =>
  intro lv e σ Q h
  simp only [Zf] at h ⊢
  obtain ⟨x, e1, σ1, h1, h2⟩ := ih h
  cases x with
  | normal => exact ⟨_, _, _, h1.2, fun hk => h2 ⟨h1.1, hk⟩⟩
  | exit i => exact ⟨_, _, _, h1.2, fun hk => h2 ⟨h1.1, hk⟩⟩
  | ret => exact ⟨_, _, _, h1, fun hk => h2 hk⟩
 | scope b ih =>
  intro lv e σ Q h
  simp only [Zf] at h ⊢
  exact ih h
 | ghost g =>
  intro lv e σ Q h
  simp only [Zf] at h ⊢
  split at h
  ·exact ⟨_, _, _, h, fun hk => hk⟩
  ·exact h.elim
 | rangeF x ps b ih =>
  intro lv e σ Q h
  simp only [Zf] at h ⊢
  split at h
  ·obtain ⟨v, σ', h1, h2⟩ := hD _ _ _ _ _ _ h
   unfold Z9 at h1
   split at h1
   ·rename_i hσ; exact ⟨_, _, _, h1, fun hk => h2 (by unfold Z9; rw [hσ]; exact hk)⟩
   ·rename_i hσ; exact ⟨_, _, _, h1, fun hk => h2 (by unfold Z9; rw [hσ]; exact hk)⟩
   ·exact h1.elim
  ·exact h.elim

theorem Zl3 {cw : Zz} (hD : Det cw) {n : Nat} {args : List AVal} {lv : List Nat} {σ : Sto} {Q : Zs} (h : Za5 cw n args lv σ Q) : ∃ v σ', Q v σ' ∧ ∀ {Q' : Zs}, Q' v σ' → Za5 cw n args lv σ Q' := by
 unfold Za5 at h ⊢
 split at h
 case h_2 => exact h.elim
 split at h
 case h_2 => exact h.elim
 obtain ⟨hl, h⟩ := h
 obtain ⟨x, e, σ', h1, h2⟩ := ZeG hD _ h
 unfold Zak at h1
 split at h1
 case h_2 => exact h1.elim
 rename_i hσ
 exact ⟨_, _, h1, fun hk => ⟨hl, h2 (by unfold Zak; rw [hσ]; exact hk)⟩⟩

theorem Zio {af : AFunc} {x : AExit} {e : Env} {σ : Sto} {Q : Zs} (h : Zcp af x e σ Q) : ∃ v, Q v σ ∧ ∀ {Q' : Zs}, Q' v σ → Zcp af x e σ Q' := by
 unfold Zcp at h ⊢
 cases x <;> simp only at h ⊢
 ·split at h
  ·exact ⟨_, h, fun hk => hk⟩
  ·exact h.elim
 ·split at h
  ·exact ⟨_, h, fun hk => hk⟩
  ·exact h.elim

theorem ZaX (T : FuncId → Option AFunc) : ∀ n, Det (ZD T n)
 | 0 => fun _ _ _ _ _ _ h => by simp [ZD] at h
 | n + 1 => by
  intro p f args lv σ Q h
  cases p with
  | true =>
   simp only [ZD] at h ⊢
   split at h
   ·obtain ⟨x, e, σ', h1, h2⟩ := ZeG (ZaX T n) _ h
    obtain ⟨v, h3, h4⟩ := Zio h1
    split at h3
    ·rename_i v' hv'
     exact ⟨v', σ, h3.2, fun {Q'} hk => h2 (h4 (by simp only [hv']; exact ⟨h3.1, hk⟩))⟩
    ·exact h3.elim
   ·exact h.elim
  | false =>
   simp only [ZD] at h ⊢
   split at h
   ·obtain ⟨x, e, σ', h1, h2⟩ := ZeG (ZaX T n) _ h
    obtain ⟨v, h3, h4⟩ := Zio h1
    unfold ZdW at h3
    split at h3
    ·rename_i hc; exact ⟨v, _, h3.2.2, fun hk => h2 (h4 (by unfold ZdW; rw [if_pos hc]; exact ⟨h3.1, h3.2.1, hk⟩))⟩
    ·rename_i hc; exact ⟨v, σ', h3, fun hk => h2 (h4 (by unfold ZdW; rw [if_neg hc]; exact hk))⟩
   ·obtain ⟨hf, h⟩ := h
    obtain ⟨v, σ', h1, h2⟩ := Zl3 (ZaX T n) h
    exact ⟨v, σ', h1, fun hk => ⟨hf, h2 hk⟩⟩

end Go.Abs
/- More fuel tells the same. -/
namespace Go.Abs
open Go

def Sub (cw cw' : Zz) : Prop := ∀ (p : Bool) (f : FuncId) (args : List AVal) (lv : List Nat) (σ : Sto) (Q Q' : Zs), (∀ v σ', Q v σ' → Q' v σ') → cw p f args lv σ Q → cw' p f args lv σ Q'

theorem Zhv {cw cw' : Zz} (hS : Sub cw cw') {lv : List Nat} {o : AOper} {e : Env} {σ : Sto} {K K' : Env → Sto → Prop} (hK : ∀ e σ, K e σ → K' e σ) (h : ZZ cw lv o e σ K) : ZZ cw' lv o e σ K' := by
 unfold ZZ at h ⊢
 split at h
 ·exact hS _ _ _ _ _ _ _ (fun v σ' hq => hK _ _ hq) h
 ·split at h
  ·exact hS _ _ _ _ _ _ _ (fun v σ' hq => hK _ _ hq) h
  ·exact ⟨h.1, hS _ _ _ _ _ _ _ (fun v σ' hq => hK _ _ hq) h.2⟩
  ·exact h.elim
 ·split at h
  ·exact hK _ _ h
  ·exact h.elim

theorem Zay {cw cw' : Zz} (hS : Sub cw cw') {lv : List Nat} : ∀ (os : List AOper) {e : Env} {σ : Sto} {K K' : Env → Sto → Prop}, (∀ e σ, K e σ → K' e σ) → Zu cw lv os e σ K → Zu cw' lv os e σ K'
 | [], _, _, _, _, hK, h => hK _ _ h
 | o :: os, e, σ, K, K', hK, h => by
  simp only [Zu] at h ⊢
  split at h
  ·exact Zhv hS (fun e σ h => Zay hS os hK h) h
  ·exact Zay hS os hK h
  ·exact h.elim

theorem ZdN {cw cw' : Zz} (hS : Sub cw cw') {lv : List Nat} : ∀ (os : List GOp) {e : Env} {σ : Sto} {K K' : Env → Sto → Prop}, (∀ e σ, K e σ → K' e σ) → Zad cw lv os e σ K → Zad cw' lv os e σ K'
 | [], _, _, _, _, hK, h => hK _ _ h
 | .op o :: os, e, σ, K, K', hK, h => by
  simp only [Zad] at h ⊢
  exact Zay hS _ (fun e σ h => ZdN hS os hK h) h
 | .gh g :: os, e, σ, K, K', hK, h => by
  simp only [Zad] at h ⊢
  split at h
  ·exact ZdN hS os hK h
  ·exact h.elim

theorem ZcL {b b' : Env → Sto → Zg → Prop} (hb : ∀ (e : Env) (σ : Sto) (Q Q' : Zg), (∀ x e σ, Q x e σ → Q' x e σ) → b e σ Q → b' e σ Q') : ∀ {n m : Nat}, n ≤ m → ∀ {e : Env} {σ : Sto} {Q Q' : Zg}, (∀ x e σ, Q x e σ → Q' x e σ) → Zbx b n e σ Q → Zbx b' m e σ Q'
 | 0, _, _, _, _, _, _, _, h => h.elim
 | n + 1, 0, hnm, _, _, _, _, _, _ => by omega
 | n + 1, m + 1, hnm, e, σ, Q, Q', hQ, h => by
  simp only [Zbx] at h ⊢
  refine hb _ _ _ _ (fun x e' σ' h => ?_) h
  cases x with
  | normal => exact ZcL hb (Nat.le_of_succ_le_succ hnm) hQ h
  | exit i => exact hQ _ _ _ h
  | ret => exact hQ _ _ _ h

theorem Zd2 {o : Nat} {e : Env} {σ : Sto} {Q Q' : Zg} (hQ : ∀ x e σ, Q x e σ → Q' x e σ) (h : Z9 o e σ Q) : Z9 o e σ Q' := by
 unfold Z9 at h ⊢
 split at h
 ·exact hQ _ _ _ h
 ·exact hQ _ _ _ h
 ·exact h.elim

theorem Z2 {cw cw' : Zz} (hS : Sub cw cw') {n m : Nat} (hnm : n ≤ m) : ∀ (c : ACode) {lv : List Nat} {e : Env} {σ : Sto} {Q Q' : Zg}, (∀ x e σ, Q x e σ → Q' x e σ) → Zf cw n lv c e σ Q → Zf cw' m lv c e σ Q' := by
 intro c
 induction c with
 | skip => intro lv e σ Q Q' hQ h; exact hQ _ _ _ h
 | region d ops => intro lv e σ Q Q' hQ h; simp only [Zf] at h ⊢; exact Zay hS ops (fun e σ h => hQ _ _ _ h) h
 | regionG ops => intro lv e σ Q Q' hQ h; simp only [Zf] at h ⊢; exact ZdN hS ops (fun e σ h => hQ _ _ _ h) h
 | regionA c m ops => intro lv e σ Q Q' hQ h; simp only [Zf] at h ⊢; exact Zay hS ops (fun e σ h => ⟨Zay hS _ (fun _ _ h => h) h.1, hQ _ _ _ h.2⟩) h
 | regionD s ops => intro lv e σ Q Q' hQ h; simp only [Zf] at h ⊢; exact Zay hS ops (fun e σ h => ⟨h.1, hQ _ _ _ h.2⟩) h
 | seq a b iha ihb =>
  intro lv e σ Q Q' hQ h
  simp only [Zf] at h ⊢
  refine iha (fun x e' σ' h => ?_) h
  cases x with
  | normal => exact ihb hQ h
  | exit i => exact hQ _ _ _ h
  | ret => exact hQ _ _ _ h
 | cond c a b iha ihb =>
  intro lv e σ Q Q' hQ h
  simp only [Zf] at h ⊢
  split at h
  ·rename_i t _
   cases t
   ·simp only [Bool.false_eq_true, if_false] at h ⊢; exact ihb hQ h
   ·simp only [if_true] at h ⊢; exact iha hQ h
  ·exact h.elim
 | block id b ih =>
  intro lv e σ Q Q' hQ h
  simp only [Zf] at h ⊢
  refine ih (fun x e' σ' h => ?_) h
  cases x with
  | normal => exact hQ _ _ _ h
  | exit i =>
   simp only at h ⊢
   split at h
   ·rename_i hi; rw [if_pos hi]; exact hQ _ _ _ h
   ·rename_i hi; rw [if_neg hi]; exact hQ _ _ _ h
  | ret => exact hQ _ _ _ h
 | loop b ih => intro lv e σ Q Q' hQ h; simp only [Zf] at h ⊢; exact ZcL (b := Zf cw n lv b) (b' := Zf cw' m lv b) (fun _ _ _ _ hq h => ih hq h) hnm hQ h
 | exit id => intro lv e σ Q Q' hQ h; exact hQ _ _ _ h
 | ret => intro lv e σ Q Q' hQ h; exact hQ _ _ _ h
 | trunc b ih =>
  intro lv e σ Q Q' hQ h
  simp only [Zf] at h ⊢
  refine ih (fun x e' σ' h => ?_) h
  cases x with
  | normal => exact ⟨h.1, hQ _ _ _ h.2⟩
  | exit i => exact ⟨h.1, hQ _ _ _ h.2⟩
  | ret => exact hQ _ _ _ h
 | scope b ih => intro lv e σ Q Q' hQ h; simp only [Zf] at h ⊢; exact ih hQ h
 | ghost g =>
  intro lv e σ Q Q' hQ h
  simp only [Zf] at h ⊢
  split at h
  ·exact hQ _ _ _ h
  ·exact h.elim
 | rangeF x ps b ih =>
  intro lv e σ Q Q' hQ h
  simp only [Zf] at h ⊢
  split at h
  ·exact hS _ _ _ _ _ _ _ (fun v σ' h => Zd2 hQ h) h
  ·exact h.elim

theorem Zhi {o : Nat} {x : AExit} {σ : Sto} {Q Q' : Zs} (hQ : ∀ v σ, Q v σ → Q' v σ) (h : Zak o x σ Q) : Zak o x σ Q' := by
 unfold Zak at h ⊢
 split at h
 ·exact hQ _ _ h
 ·exact h.elim
theorem Zkq {cw cw' : Zz} (hS : Sub cw cw') {n m : Nat} (hnm : n ≤ m) {args : List AVal} {lv : List Nat} {σ : Sto} {Q Q' : Zs} (hQ : ∀ v σ, Q v σ → Q' v σ) (h : Za5 cw n args lv σ Q) : Za5 cw' m args lv σ Q' := by
 unfold Za5 at h ⊢
 split at h
 case h_2 => exact h.elim
 split at h
 case h_2 => exact h.elim
 exact ⟨h.1, Z2 hS hnm _ (fun x _ σ' h => Zhi hQ h) h.2⟩

theorem ZbZ {af : AFunc} {x : AExit} {e : Env} {σ : Sto} {Q Q' : Zs} (hQ : ∀ v σ, Q v σ → Q' v σ) (h : Zcp af x e σ Q) : Zcp af x e σ Q' := by
 unfold Zcp at h ⊢
 cases x <;> simp only at h ⊢
 ·split at h
  ·exact hQ _ _ h
  ·exact h.elim
 ·split at h
  ·exact hQ _ _ h
  ·exact h.elim

theorem Zl2 {c : Bool} {n : Nat} {Q Q' : Zs} (hQ : ∀ v σ, Q v σ → Q' v σ) (v : AVal) (σ : Sto) (h : ZdW c n Q v σ) : ZdW c n Q' v σ := by
 unfold ZdW at h ⊢
 split
 ·rename_i hc; rw [if_pos hc] at h; exact ⟨h.1, h.2.1, hQ _ _ h.2.2⟩
 ·rename_i hc; rw [if_neg hc] at h; exact hQ _ _ h

theorem ZE (T : FuncId → Option AFunc) : ∀ {n m : Nat}, n ≤ m → Sub (ZD T n) (ZD T m)
 | 0, _, _ => fun _ _ _ _ _ _ _ _ h => by simp [ZD] at h
 | n + 1, 0, h => by omega
 | n + 1, m + 1, hnm => by
  have ih := ZE T (Nat.le_of_succ_le_succ hnm)
  intro p f args lv σ Q Q' hQ h
  cases p with
  | true =>
   simp only [ZD] at h ⊢
   split at h
   ·refine Z2 ih (Nat.le_of_succ_le_succ hnm) _ (fun x e σ' h => ZbZ (fun v σ'' h => ?_) h) h
    split at h
    ·exact ⟨h.1, hQ _ _ h.2⟩
    ·exact h.elim
   ·exact h.elim
  | false =>
   simp only [ZD] at h ⊢
   split at h
   ·exact Z2 ih (Nat.le_of_succ_le_succ hnm) _ (fun x e σ' h => ZbZ (Zl2 hQ) h) h
   ·exact ⟨h.1, Zkq ih (Nat.le_of_succ_le_succ hnm) hQ h.2⟩

end Go.Abs
/- A stack machine over the abstract machine: no fuel, one equation for each step. -/
namespace Go.Abs
open Go

def ZlP (cw : Zz) : Prop := ∀ (p : Bool) (f : FuncId) (args : List AVal) (lv : List Nat) (σ : Sto) (Q Q' : Zs), cw p f args lv σ Q → cw p f args lv σ Q' → cw p f args lv σ fun v σ => Q v σ ∧ Q' v σ

theorem ZlQ {cw : Zz} (hC : ZlP cw) {lv : List Nat} {o : AOper} {e : Env} {σ : Sto} {K K' : Env → Sto → Prop} (h : ZZ cw lv o e σ K) (h' : ZZ cw lv o e σ K') : ZZ cw lv o e σ fun e σ => K e σ ∧ K' e σ := by
 revert h h'
 unfold ZZ
 split
 ·exact fun h h' => hC _ _ _ _ _ _ _ h h'
 ·split
  ·exact fun h h' => hC _ _ _ _ _ _ _ h h'
  ·exact fun h h' => ⟨h.1, hC _ _ _ _ _ _ _ h.2 h'.2⟩
  ·exact fun h => h.elim
 ·split
  ·exact fun h h' => ⟨h, h'⟩
  ·exact fun h => h.elim

theorem ZcK {cw : Zz} (hC : ZlP cw) (hS : Sub cw cw) {lv : List Nat} : ∀ (os : List AOper) {e : Env} {σ : Sto} {K K' : Env → Sto → Prop}, Zu cw lv os e σ K → Zu cw lv os e σ K' → Zu cw lv os e σ fun e σ => K e σ ∧ K' e σ
 | [], _, _, _, _, h, h' => ⟨h, h'⟩
 | o :: os, e, σ, K, K', h, h' => by
  revert h h'
  simp only [Zu]
  split
  ·exact fun h h' => Zhv hS (fun e σ h => ZcK hC hS os h.1 h.2) (ZlQ hC h h')
  ·exact fun h h' => ZcK hC hS os h h'
  ·exact fun h => h.elim

theorem Zfm {cw : Zz} (hC : ZlP cw) (hS : Sub cw cw) {lv : List Nat} : ∀ (os : List GOp) {e : Env} {σ : Sto} {K K' : Env → Sto → Prop}, Zad cw lv os e σ K → Zad cw lv os e σ K' → Zad cw lv os e σ fun e σ => K e σ ∧ K' e σ
 | [], _, _, _, _, h, h' => ⟨h, h'⟩
 | .op o :: os, e, σ, K, K', h, h' => by
  simp only [Zad] at h h' ⊢
  exact Zay hS _ (fun e σ h => Zfm hC hS os h.1 h.2) (ZcK hC hS _ h h')
 | .gh g :: os, e, σ, K, K', h, h' => by
  revert h h'
  simp only [Zad]
  split
  ·exact fun h h' => Zfm hC hS os h h'
  ·exact fun h => h.elim

theorem Zht {b : Env → Sto → Zg → Prop} (hm : ∀ (e : Env) (σ : Sto) (Q Q' : Zg), (∀ x e σ, Q x e σ → Q' x e σ) → b e σ Q → b e σ Q') (hb : ∀ (e : Env) (σ : Sto) (Q Q' : Zg), b e σ Q → b e σ Q' → b e σ fun x e σ => Q x e σ ∧ Q' x e σ) :
  ∀ {n : Nat} {e : Env} {σ : Sto} {Q Q' : Zg}, Zbx b n e σ Q → Zbx b n e σ Q' → Zbx b n e σ fun x e σ => Q x e σ ∧ Q' x e σ
 | 0, _, _, _, _, h, _ => h.elim
 | n + 1, e, σ, Q, Q', h, h' => by
  simp only [Zbx] at h h' ⊢
  refine hm _ _ _ _ (fun x e' σ' h => ?_) (hb _ _ _ _ h h')
  cases x with
  | normal => exact Zht hm hb h.1 h.2
  | exit i => exact h
  | ret => exact h

theorem Zhg {o : Nat} {e : Env} {σ : Sto} {Q Q' : Zg} (h : Z9 o e σ Q) (h' : Z9 o e σ Q') : Z9 o e σ fun x e σ => Q x e σ ∧ Q' x e σ := by
 revert h h'
 unfold Z9
 split
 ·exact fun h h' => ⟨h, h'⟩
 ·exact fun h h' => ⟨h, h'⟩
 ·exact fun h => h.elim
theorem Zhh {o : Nat} {x : AExit} {σ : Sto} {Q Q' : Zs} (h : Zak o x σ Q) (h' : Zak o x σ Q') : Zak o x σ fun v σ => Q v σ ∧ Q' v σ := by
 revert h h'
 unfold Zak
 split
 ·exact fun h h' => ⟨h, h'⟩
 ·exact fun h => h.elim

theorem Zfn {cw : Zz} (hC : ZlP cw) (hS : Sub cw cw) {n : Nat} : ∀ (c : ACode) {lv : List Nat} {e : Env} {σ : Sto} {Q Q' : Zg}, Zf cw n lv c e σ Q → Zf cw n lv c e σ Q' → Zf cw n lv c e σ fun x e σ => Q x e σ ∧ Q' x e σ := by
 intro c
 induction c with
 | skip => intro lv e σ Q Q' h h'; exact ⟨h, h'⟩
 | region d ops => intro lv e σ Q Q' h h'; simp only [Zf] at h h' ⊢; exact ZcK hC hS ops h h'
 | regionG ops => intro lv e σ Q Q' h h'; simp only [Zf] at h h' ⊢; exact Zfm hC hS ops h h'
 | regionA c m ops => intro lv e σ Q Q' h h'; simp only [Zf] at h h' ⊢; exact Zay hS ops (fun e σ h => ⟨h.1.1, h.1.2, h.2.2⟩) (ZcK hC hS ops h h')
 | regionD s ops => intro lv e σ Q Q' h h'; simp only [Zf] at h h' ⊢; exact Zay hS ops (fun e σ h => ⟨h.1.1, h.1.2, h.2.2⟩) (ZcK hC hS ops h h')
 | seq a b iha ihb =>
  intro lv e σ Q Q' h h'
  simp only [Zf] at h h' ⊢
  refine Z2 hS (Nat.le_refl n) a (fun x e' σ' h => ?_) (iha h h')
  cases x with
  | normal => exact ihb h.1 h.2
  | exit i => exact h
  | ret => exact h
 | cond c a b iha ihb =>
  intro lv e σ Q Q' h h'
  simp only [Zf] at h h' ⊢
  split at h
  ·rename_i t ht
   rw [ht] at h'
   cases t
   ·simp only [Bool.false_eq_true, if_false] at h h' ⊢; exact ihb h h'
   ·simp only [if_true] at h h' ⊢; exact iha h h'
  ·exact h.elim
 | block id b ih =>
  intro lv e σ Q Q' h h'
  simp only [Zf] at h h' ⊢
  refine Z2 hS (Nat.le_refl n) b (fun x e' σ' h => ?_) (ih h h')
  cases x with
  | normal => exact h
  | exit i =>
   simp only at h ⊢
   split
   ·rename_i hi; rw [if_pos hi, if_pos hi] at h; exact h
   ·rename_i hi; rw [if_neg hi, if_neg hi] at h; exact h
  | ret => exact h
 | loop b ih =>
  intro lv e σ Q Q' h h'
  simp only [Zf] at h h' ⊢
  exact Zht (b := Zf cw n lv b) (fun _ _ _ _ hq h => Z2 hS (Nat.le_refl n) b hq h) (fun _ _ _ _ h h' => ih h h') h h'
 | exit id => intro lv e σ Q Q' h h'; exact ⟨h, h'⟩
 | ret => intro lv e σ Q Q' h h'; exact ⟨h, h'⟩
 | trunc b ih =>
  intro lv e σ Q Q' h h'
  simp only [Zf] at h h' ⊢
  refine Z2 hS (Nat.le_refl n) b (fun x e' σ' h => ?_) (ih h h')
  cases x with
  | normal => exact ⟨h.1.1, h.1.2, h.2.2⟩
  | exit i => exact ⟨h.1.1, h.1.2, h.2.2⟩
  | ret => exact h
 | scope b ih => intro lv e σ Q Q' h h'; simp only [Zf] at h h' ⊢; exact ih h h'
 | ghost g =>
  intro lv e σ Q Q' h h'
  simp only [Zf] at h h' ⊢
  split at h
  ·rename_i hg; rw [hg] at h'; exact ⟨h, h'⟩
  ·exact h.elim
 | rangeF x ps b ih =>
  intro lv e σ Q Q' h h'
  simp only [Zf] at h h' ⊢
  split at h
  ·rename_i hg; rw [hg] at h'; exact hS _ _ _ _ _ _ _ (fun v σ' h => Zhg h.1 h.2) (hC _ _ _ _ _ _ _ h h')
  ·exact h.elim

theorem Zkl {cw : Zz} (hC : ZlP cw) (hS : Sub cw cw) {n : Nat} {args : List AVal} {lv : List Nat} {σ : Sto} {Q Q' : Zs} (h : Za5 cw n args lv σ Q) (h' : Za5 cw n args lv σ Q') : Za5 cw n args lv σ fun v σ => Q v σ ∧ Q' v σ := by
 revert h h'
 unfold Za5
 split
 case h_2 => exact fun h => h.elim
 split
 case h_2 => exact fun h => h.elim
 exact fun h h' => ⟨h.1, Z2 hS (Nat.le_refl n) _ (fun x e σ' h => Zhh h.1 h.2) (Zfn hC hS _ h.2 h'.2)⟩

theorem Zi6 {af : AFunc} {x : AExit} {e : Env} {σ : Sto} {Q Q' : Zs} (h : Zcp af x e σ Q) (h' : Zcp af x e σ Q') : Zcp af x e σ fun v σ => Q v σ ∧ Q' v σ := by
 unfold Zcp at h h' ⊢
 cases x <;> simp only at h h' ⊢
 ·split at h
  ·rename_i hr; rw [hr] at h'; exact ⟨h, h'⟩
  ·exact h.elim
 ·split at h
  ·rename_i hr; rw [hr] at h'; exact ⟨h, h'⟩
  ·exact h.elim

theorem ZlR {c : Bool} {n : Nat} {Q Q' : Zs} (v : AVal) (σ : Sto) (h : ZdW c n Q v σ ∧ ZdW c n Q' v σ) : ZdW c n (fun v σ => Q v σ ∧ Q' v σ) v σ := by
 obtain ⟨h, h'⟩ := h
 unfold ZdW at h h' ⊢
 split
 ·rename_i hc; rw [if_pos hc] at h h'; exact ⟨h.1, h.2.1, h.2.2, h'.2.2⟩
 ·rename_i hc; rw [if_neg hc] at h h'; exact ⟨h, h'⟩

theorem Zgi (T : FuncId → Option AFunc) : ∀ n, ZlP (ZD T n)
 | 0 => fun _ _ _ _ _ _ _ h _ => by simp [ZD] at h
 | n + 1 => by
  have ih := Zgi T n
  have hS := ZE T (Nat.le_refl n)
  intro p f args lv σ Q Q' h h'
  cases p with
  | true =>
   simp only [ZD] at h h' ⊢
   split at h
   ·rename_i h1 h2
    rw [h1, h2] at h'
    refine Z2 hS (Nat.le_refl n) _ (fun x e σ' h => ZbZ (fun v σ'' h => ?_) (Zi6 h.1 h.2)) (Zfn ih hS _ h h')
    obtain ⟨a, b⟩ := h
    split at a
    ·rename_i hv; rw [hv] at b; exact ⟨a.1, a.2, b.2⟩
    ·exact a.elim
   ·exact h.elim
  | false =>
   simp only [ZD] at h h' ⊢
   split at h
   ·rename_i h1
    rw [h1] at h'
    exact Z2 hS (Nat.le_refl n) _ (fun x e σ' h => ZbZ ZlR (Zi6 h.1 h.2)) (Zfn ih hS _ h h')
   ·rename_i h1
    rw [h1] at h'
    exact ⟨h.1, Zkl ih hS h.2 h'.2⟩

inductive Item where
 | code (c : ACode)
 | ops (os : List AOper)
 | gops (os : List GOp)
 | sep (s : SepC)
 | alt (os : List AOper) (e : Env) (σ : Sto)
 | inBlock (id : Nat)
 | inLoop (b : ACode)
 | inTrunc (m : Nat)

def ZA (cw : Zz) (n : Nat) (Q : Zg) : List Item → Zg
 | [], x, e, σ => Q x e σ
 | .code c :: k, .normal, e, σ => Zf cw n [] c e σ (ZA cw n Q k)
 | .ops os :: k, .normal, e, σ => Zu cw [] os e σ (ZA cw n Q k .normal)
 | .gops os :: k, .normal, e, σ => Zad cw [] os e σ (ZA cw n Q k .normal)
 | .sep s :: k, .normal, e, σ => ZeH s e = true ∧ ZA cw n Q k .normal e σ
 | .alt os e0 σ0 :: k, .normal, e, σ => Zu cw [] os e0 σ0 (fun e2 σ2 => e2 = e ∧ σ2 = σ) ∧ ZA cw n Q k .normal e σ
 | .inLoop b :: k, .normal, e, σ => Zbx (Zf cw n [] b) n e σ (ZA cw n Q k)
 | .inTrunc m :: k, .normal, e, σ => (σ.take m).all (AObj.under m) = true ∧ ZA cw n Q k .normal (Zaj m e) (σ.take m)
 | .inTrunc m :: k, .exit i, e, σ => (σ.take m).all (AObj.under m) = true ∧ ZA cw n Q k (.exit i) (Zaj m e) (σ.take m)
 | .inBlock id :: k, .exit i, e, σ => if i = id then ZA cw n Q k .normal e σ else ZA cw n Q k (.exit i) e σ
 | _ :: k, x, e, σ => ZA cw n Q k x e σ

theorem ZaC {cw cw' : Zz} (hS : Sub cw cw') {n m : Nat} (hnm : n ≤ m) {Q Q' : Zg} (hQ : ∀ x e σ, Q x e σ → Q' x e σ) : ∀ (k : List Item) (x : AExit) (e : Env) (σ : Sto), ZA cw n Q k x e σ → ZA cw' m Q' k x e σ
 | [], x, e, σ, h => hQ _ _ _ h
 | i :: k, x, e, σ, h => by
  have ih := ZaC hS hnm hQ k
  cases i <;> cases x <;> simp only [ZA] at h ⊢
  all_goals first
   | exact ih _ _ _ h
   | exact ⟨h.1, ih _ _ _ h.2⟩
   | exact Z2 hS hnm _ ih h
   | exact Zay hS _ (ih _) h
   | exact ZdN hS _ (ih _) h
   | exact ⟨Zay hS _ (fun _ _ h => h) h.1, ih _ _ _ h.2⟩
   | skip
  case inLoop.normal b => exact ZcL (b := Zf cw n [] b) (b' := Zf cw' m [] b) (fun _ _ _ _ hq h => Z2 hS hnm _ hq h) hnm ih h
  case inBlock.exit =>
   split at h
   ·rename_i hi; rw [if_pos hi]; exact ih _ _ _ h
   ·rename_i hi; rw [if_neg hi]; exact ih _ _ _ h

def Cw (T : FuncId → Option AFunc) : Zz := fun p f args lv σ Q => ∃ n, ZD T n p f args lv σ Q

def ZaP (T : FuncId → Option AFunc) (Q : Zg) (x : AExit) (k : List Item) (e : Env) (σ : Sto) : Prop := ∃ n, ZA (ZD T n) n Q k x e σ
abbrev Run (T : FuncId → Option AFunc) (Q : Zg) (k : List Item) (e : Env) (σ : Sto) : Prop := ZaP T Q .normal k e σ

section
variable {T : FuncId → Option AFunc} {Q : Zg} {k : List Item} {e : Env} {σ : Sto}

theorem Cw.mono {p : Bool} {f : FuncId} {args : List AVal} {lv : List Nat} {R R' : Zs} (h : Cw T p f args lv σ R) (hR : ∀ v σ', R v σ' → R' v σ') : Cw T p f args lv σ R' :=
 let ⟨n, h⟩ := h; ⟨n, ZE T (Nat.le_refl n) _ _ _ _ _ _ _ hR h⟩

theorem Cw.det {p : Bool} {f : FuncId} {args : List AVal} {lv : List Nat} {R : Zs} (h : Cw T p f args lv σ R) : ∃ v σ', R v σ' ∧ ∀ {R' : Zs}, R' v σ' → Cw T p f args lv σ R' :=
 let ⟨n, h⟩ := h
 let ⟨v, σ', h1, h2⟩ := ZaX T n _ _ _ _ _ _ h
 ⟨v, σ', h1, fun hr => ⟨n, h2 hr⟩⟩

theorem Cw.both {p : Bool} {f : FuncId} {args : List AVal} {lv : List Nat} {R R' : Zs} (h : Cw T p f args lv σ R) (h' : Cw T p f args lv σ R') : ∃ v σ', R v σ' ∧ R' v σ' := by
 obtain ⟨n, h⟩ := h
 obtain ⟨m, h'⟩ := h'
 have a := ZE T (Nat.le_max_left n m) _ _ _ _ _ _ R (fun _ _ h => h) h
 have b := ZE T (Nat.le_max_right n m) _ _ _ _ _ _ R' (fun _ _ h => h) h'
 obtain ⟨v, σ', h1, _⟩ := ZaX T _ _ _ _ _ _ _ (Zgi T _ _ _ _ _ _ _ _ a b)
 exact ⟨v, σ', h1⟩

theorem Cw.iff_of {p : Bool} {f : FuncId} {args : List AVal} {lv : List Nat} {v : AVal} {σ' : Sto} (h : ∀ R : Zs, R v σ' → Cw T p f args lv σ R) {R : Zs} : Cw T p f args lv σ R ↔ R v σ' := by
 refine ⟨fun hc => ?_, h R⟩
 obtain ⟨u, τ, h1, rfl, rfl⟩ := hc.both (h (fun u τ => u = v ∧ τ = σ') ⟨rfl, rfl⟩)
 exact h1

theorem ZaP.mono {Q' : Zg} {x : AExit} (h : ZaP T Q x k e σ) (hQ : ∀ x e σ, Q x e σ → Q' x e σ) : ZaP T Q' x k e σ :=
 let ⟨n, h⟩ := h; ⟨n, ZaC (ZE T (Nat.le_refl n)) (Nat.le_refl n) hQ _ _ _ _ h⟩

theorem Zpx {x : AExit} : ZaP T Q x [] e σ ↔ Q x e σ := ⟨fun ⟨_, h⟩ => h, fun h => ⟨0, h⟩⟩

theorem Zn9 : Run T Q (.code .skip :: k) e σ ↔ Run T Q k e σ := Iff.rfl
theorem Zkm {d : Bool} {os : List AOper} : Run T Q (.code (.region d os) :: k) e σ ↔ Run T Q (.ops os :: k) e σ := Iff.rfl

theorem Zi7 {os : List GOp} : Run T Q (.code (.regionG os) :: k) e σ ↔ Run T Q (.gops os :: k) e σ := Iff.rfl
theorem Zi8 {s : SepC} {os : List AOper} : Run T Q (.code (.regionD s os) :: k) e σ ↔ Run T Q (.ops os :: .sep s :: k) e σ := by
 refine exists_congr fun n => ?_
 simp only [ZA, Zf]
theorem Zpy {s : SepC} : Run T Q (.sep s :: k) e σ ↔ ZeH s e = true ∧ Run T Q k e σ := by
 simp only [ZaP, ZA]
 exact exists_and_left
theorem Zi9 {c m : Nat} {os : List AOper} : Run T Q (.code (.regionA c m os) :: k) e σ ↔ Run T Q (.ops os :: .alt (ZaL c m os) e σ :: k) e σ := by
 refine exists_congr fun n => ?_
 simp only [ZA, Zf]
theorem Zpz {os : List AOper} {e0 : Env} {σ0 : Sto} : Run T Q (.alt os e0 σ0 :: k) e σ ↔ Run T (fun x e2 σ2 => x = .normal ∧ e2 = e ∧ σ2 = σ) [.ops os] e0 σ0 ∧ Run T Q k e σ := by
 constructor
 ·rintro ⟨n, h1, h2⟩
  refine ⟨⟨n, ?_⟩, n, h2⟩
  simp only [ZA, true_and]; exact h1
 ·rintro ⟨⟨n, h1⟩, m, h2⟩
  refine ⟨max n m, ?_, ZaC (ZE T (Nat.le_max_right n m)) (Nat.le_max_right n m) (fun _ _ _ h => h) _ _ _ _ h2⟩
  simp only [ZA, true_and] at h1
  exact Zay (ZE T (Nat.le_max_left n m)) _ (fun _ _ h => h) h1
theorem Zoa : Run T Q (.gops [] :: k) e σ ↔ Run T Q k e σ := Iff.rfl
theorem ZpA {o : AOper} {os : List GOp} : Run T Q (.gops (.op o :: os) :: k) e σ ↔ Run T Q (.ops [o] :: .gops os :: k) e σ := Iff.rfl
theorem ZpB {g : Ghost} {os : List GOp} : Run T Q (.gops (.gh g :: os) :: k) e σ ↔ Run T Q (.code (.ghost g) :: .gops os :: k) e σ := by
 refine exists_congr fun n => ?_
 simp only [ZA, Zf, Zad]
theorem ZpC {a b : ACode} : Run T Q (.code (.seq a b) :: k) e σ ↔ Run T Q (.code a :: .code b :: k) e σ := by
 refine exists_congr fun n => ?_
 simp only [ZA, Zf]
 refine iff_of_eq (congrArg (Zf (ZD T n) n [] a e σ) ?_)
 funext x e' σ'
 cases x <;> simp only [ZA]

theorem Zob {c : Opd} {a b : ACode} : Run T Q (.code (.cond c a b) :: k) e σ ↔ match ev e c with
  | .bool t => if t = true then Run T Q (.code a :: k) e σ else Run T Q (.code b :: k) e σ
  | _ => False := by
 simp only [ZaP, ZA, Zf]
 cases hc : ev e c <;> try (simp; done)
 rename_i t
 cases t <;> simp

theorem ZlS {id : Nat} {b : ACode} : Run T Q (.code (.block id b) :: k) e σ ↔ Run T Q (.code b :: .inBlock id :: k) e σ := by
 refine exists_congr fun n => ?_
 simp only [ZA, Zf]
 refine iff_of_eq (congrArg (Zf (ZD T n) n [] b e σ) ?_)
 funext x e' σ'
 cases x <;> simp only [ZA]

theorem Zoc {b : ACode} : Run T Q (.code (.loop b) :: k) e σ ↔ Run T Q (.inLoop b :: k) e σ := Iff.rfl

theorem Zb {b : ACode} : Run T Q (.inLoop b :: k) e σ ↔ Run T Q (.code b :: .inLoop b :: k) e σ := by
 constructor
 ·rintro ⟨n, h⟩
  cases n with
  | zero => exact h.elim
  | succ n =>
   refine ⟨n + 1, ?_⟩
   simp only [ZA, Zbx] at h ⊢
   refine Z2 (ZE T (Nat.le_refl _)) (Nat.le_refl _) b (fun x e' σ' h => ?_) h
   cases x with
   | normal => exact ZcL (b := Zf (ZD T (n + 1)) (n + 1) [] b) (fun _ _ _ _ hq h => Z2 (ZE T (Nat.le_refl _)) (Nat.le_refl _) b hq h) (Nat.le_succ n) (fun _ _ _ h => h) h
   | exit i => exact h
   | ret => exact h
 ·rintro ⟨n, h⟩
  refine ⟨n + 1, ?_⟩
  simp only [ZA, Zbx] at h ⊢
  refine Z2 (ZE T (Nat.le_succ n)) (Nat.le_succ n) b (fun x e' σ' h => ?_) h
  have hr := ZaC (ZE T (Nat.le_succ n)) (Nat.le_succ n) (fun _ _ _ h => h) k (Q := Q) (Q' := Q)
  cases x with
  | normal => exact ZcL (b := Zf (ZD T n) n [] b) (b' := Zf (ZD T (n + 1)) (n + 1) [] b) (fun _ _ _ _ hq h => Z2 (ZE T (Nat.le_succ n)) (Nat.le_succ n) b hq h) (Nat.le_refl n) hr h
  | exit i => exact hr _ _ _ h
  | ret => exact hr _ _ _ h

theorem ZlT {b : ACode} : Run T Q (.code (.trunc b) :: k) e σ ↔ Run T Q (.code b :: .inTrunc σ.length :: k) e σ := by
 refine exists_congr fun n => ?_
 simp only [ZA, Zf]
 refine iff_of_eq (congrArg (Zf (ZD T n) n [] b e σ) ?_)
 funext x e' σ'
 cases x <;> simp only [ZA]

theorem ZlU {b : ACode} : Run T Q (.code (.scope b) :: k) e σ ↔ Run T Q (.code b :: k) e σ := Iff.rfl

theorem Zod {i : Nat} : Run T Q (.code (.exit i) :: k) e σ ↔ ZaP T Q (.exit i) k e σ := Iff.rfl

theorem Zeh {cw : Zz} {n : Nat} : ∀ (k : List Item) {e : Env} {σ : Sto}, ZA cw n Q k .ret e σ ↔ Q .ret e σ
 | [], _, _ => Iff.rfl
 | i :: k, e, σ => by cases i <;> simp only [ZA] <;> exact Zeh k

theorem ZpD : Run T Q (.code .ret :: k) e σ ↔ Q .ret e σ := by
 constructor
 ·rintro ⟨n, h⟩; exact (Zeh k).1 h
 ·intro h; exact ⟨0, (Zeh k).2 h⟩

theorem Zcd {g : Ghost} : Run T Q (.code (.ghost g) :: k) e σ ↔ match Zac g e σ with
  | some (e', σ') => Run T Q k e' σ'
  | none => False := by
 simp only [ZaP, ZA, Zf]
 generalize Zac g e σ = r
 cases r <;> simp

theorem Zim {id : Nat} : Run T Q (.inBlock id :: k) e σ ↔ Run T Q k e σ := Iff.rfl
theorem Zin {m : Nat} : Run T Q (.inTrunc m :: k) e σ ↔ (σ.take m).all (AObj.under m) = true ∧ Run T Q k (Zaj m e) (σ.take m) := by
 simp only [ZaP, ZA]
 exact exists_and_left

theorem ZlV {i : Nat} {c : ACode} : ZaP T Q (.exit i) (.code c :: k) e σ ↔ ZaP T Q (.exit i) k e σ := Iff.rfl
theorem ZlW {i : Nat} {c : ACode} : ZaP T Q (.exit i) (.inLoop c :: k) e σ ↔ ZaP T Q (.exit i) k e σ := Iff.rfl
theorem ZlX {i : Nat} {c : List GOp} : ZaP T Q (.exit i) (.gops c :: k) e σ ↔ ZaP T Q (.exit i) k e σ := Iff.rfl
theorem Zoe {i : Nat} {os : List AOper} {e0 : Env} {σ0 : Sto} : ZaP T Q (.exit i) (.alt os e0 σ0 :: k) e σ ↔ ZaP T Q (.exit i) k e σ := Iff.rfl
theorem Zof {i : Nat} {s : SepC} : ZaP T Q (.exit i) (.sep s :: k) e σ ↔ ZaP T Q (.exit i) k e σ := Iff.rfl
theorem Zog {i : Nat} {c : List AOper} : ZaP T Q (.exit i) (.ops c :: k) e σ ↔ ZaP T Q (.exit i) k e σ := Iff.rfl
theorem Zkn {i m : Nat} : ZaP T Q (.exit i) (.inTrunc m :: k) e σ ↔ (σ.take m).all (AObj.under m) = true ∧ ZaP T Q (.exit i) k (Zaj m e) (σ.take m) := by
 simp only [ZaP, ZA]
 exact exists_and_left
theorem Zko {i id : Nat} : ZaP T Q (.exit i) (.inBlock id :: k) e σ ↔ if i = id then Run T Q k e σ else ZaP T Q (.exit i) k e σ := by
 simp only [ZaP, ZA]
 split <;> rfl

theorem ZpE : Run T Q (.ops [] :: k) e σ ↔ Run T Q k e σ := Iff.rfl

theorem Zoh {d : Option Nat} {p : Bool} {f : FuncId} {xs : List Opd} {a r : List Nat} {os : List AOper} : Run T Q (.ops (⟨d, .call p f xs, none, a, r⟩ :: os) :: k) e σ ↔ Cw T p f (xs.map (ev e)) [] σ fun v σ' => Run T Q (.ops os :: k) (put e d v) σ' := by
 constructor
 ·rintro ⟨n, h⟩
  refine ⟨n, ZE T (Nat.le_refl n) _ _ _ _ _ _ _ (fun v σ' h => ?_) h⟩
  exact ⟨n, h⟩
 ·intro h
  obtain ⟨v, σ', ⟨m, h1⟩, h2⟩ := h.det
  obtain ⟨n, h3⟩ := h2 (R' := fun u τ => u = v ∧ τ = σ') ⟨rfl, rfl⟩
  refine ⟨max n m, ?_⟩
  refine ZE T (Nat.le_max_left n m) _ _ _ _ _ _ _ ?_ h3
  rintro u τ ⟨rfl, rfl⟩
  exact ZaC (ZE T (Nat.le_max_right n m)) (Nat.le_max_right n m) (fun _ _ _ h => h) _ _ _ _ h1

theorem ZlY {d : Option Nat} {p : Bool} {x : Opd} {xs : List Opd} {a r : List Nat} {os : List AOper} : Run T Q (.ops (⟨d, .callv p x xs, none, a, r⟩ :: os) :: k) e σ ↔ match ev e x with
  | .clo (.func f) first captured => Cw T p f (first ++ xs.map (ev e) ++ captured) [] σ fun v σ' => Run T Q (.ops os :: k) (put e d v) σ'
  | .yld l => p = false ∧ Cw T false Zag (.yld l :: xs.map (ev e)) [] σ fun v σ' => Run T Q (.ops os :: k) (put e d v) σ'
  | _ => False := by
 cases hx : ev e x <;> try (simp only [ZaP, ZA, Zu, ZN, ZZ, hx]; simp; done)
 case yld l =>
  simp only
  constructor
  ·rintro ⟨n, h⟩
   simp only [ZA, Zu, ZN, ZZ, hx] at h
   exact ⟨h.1, n, ZE T (Nat.le_refl n) _ _ _ _ _ _ _ (fun v σ' h => ⟨n, h⟩) h.2⟩
  ·rintro ⟨hp, h⟩
   obtain ⟨v, σ', ⟨m, h1⟩, h2⟩ := h.det
   obtain ⟨n, h3⟩ := h2 (R' := fun u τ => u = v ∧ τ = σ') ⟨rfl, rfl⟩
   refine ⟨max n m, ?_⟩
   simp only [ZA, Zu, ZN, ZZ, hx]
   refine ⟨hp, ZE T (Nat.le_max_left n m) _ _ _ _ _ _ _ ?_ h3⟩
   rintro u τ ⟨rfl, rfl⟩
   exact ZaC (ZE T (Nat.le_max_right n m)) (Nat.le_max_right n m) (fun _ _ _ h => h) _ _ _ _ h1
 rename_i f first captured
 cases f <;> try (simp only [ZaP, ZA, Zu, ZN, ZZ, hx]; simp; done)
 rename_i f
 simp only
 constructor
 ·rintro ⟨n, h⟩
  simp only [ZA, Zu, ZN, ZZ, hx] at h
  refine ⟨n, ZE T (Nat.le_refl n) _ _ _ _ _ _ _ (fun v σ' h => ?_) h⟩
  exact ⟨n, h⟩
 ·intro h
  obtain ⟨v, σ', ⟨m, h1⟩, h2⟩ := h.det
  obtain ⟨n, h3⟩ := h2 (R' := fun u τ => u = v ∧ τ = σ') ⟨rfl, rfl⟩
  refine ⟨max n m, ?_⟩
  simp only [ZA, Zu, ZN, ZZ, hx]
  refine ZE T (Nat.le_max_left n m) _ _ _ _ _ _ _ ?_ h3
  rintro u τ ⟨rfl, rfl⟩
  exact ZaC (ZE T (Nat.le_max_right n m)) (Nat.le_max_right n m) (fun _ _ _ h => h) _ _ _ _ h1

theorem Zq {o : AOp} {d : Option Nat} {a r : List Nat} {os : List AOper} (h1 : ∀ p f xs, o ≠ .call p f xs) (h2 : ∀ p x xs, o ≠ .callv p x xs) : Run T Q (.ops (⟨d, o, none, a, r⟩ :: os) :: k) e σ ↔ match Zc [] o e σ with
  | some (v, σ') => Run T Q (.ops os :: k) (put e d v) σ'
  | none => False := by
 cases o <;> first | exact absurd rfl (h1 _ _ _) | exact absurd rfl (h2 _ _ _) | skip
 all_goals
  simp only [ZaP, ZA, Zu, ZN, ZZ]
  generalize Zc [] _ e σ = r
  cases r <;> simp

theorem ZlZ {o : AOp} {d : Option Nat} {g : Nat} {want : Bool} {a r : List Nat} {os : List AOper} : Run T Q (.ops (⟨d, o, some (some g, want), a, r⟩ :: os) :: k) e σ ↔ match e[g]? with
  | some (.bool b) => if b = want then Run T Q (.ops (⟨d, o, none, a, r⟩ :: os) :: k) e σ else Run T Q (.ops os :: k) (put e d ZaY) σ
  | some (.tup _) => Run T Q (.ops os :: k) (put e d ZaY) σ
  | _ => False := by
 simp only [ZaP, ZA, Zu, ZN, Option.bind_some]
 cases e[g]? with
 | none => simp
 | some v =>
  cases v <;> try (simp; done)
  rename_i b
  cases b <;> cases want <;> simp [ZZ]

theorem Zhu {f : FuncId} {af : AFunc} (hf : T f = some af) {args : List AVal} {R : Zs} : Cw T false f args [] σ R ↔ Run T (fun x e σ' => Zcp af x e σ' (ZdW af.cut σ.length R)) [.code af.code] (Zah af.ntmps args) σ := by
 constructor
 ·rintro ⟨n, h⟩
  cases n with
  | zero => exact absurd h (by simp [ZD])
  | succ n => simp only [ZD, hf] at h; exact ⟨n, h⟩
 ·rintro ⟨n, h⟩
  exact ⟨n + 1, by simp only [ZD, hf]; exact h⟩

theorem ZdM {f : FuncId} {af : AFunc} (hf : T f = some af) {args as : List AVal} (ha : args.mapM (Zn σ Zh) = some as) {lv : List Nat} {R : Zs} : Cw T true f args lv σ R ↔
  Run T (fun x e σ' => Zcp af x e σ' fun v σ'' => match Zn σ'' Zh v with
   | some v' => (AVal.pures args = true ∨ v'.flat = true) ∧ R v' σ
   | none => False) [.code af.code] (Zah af.ntmps as) [] := by
 constructor
 ·rintro ⟨n, h⟩
  cases n with
  | zero => exact absurd h (by simp [ZD])
  | succ n => simp only [ZD, hf, ha] at h; exact ⟨n, h⟩
 ·rintro ⟨n, h⟩
  exact ⟨n + 1, by simp only [ZD, hf, ha]; exact h⟩

def Zei (T : FuncId → Option AFunc) (Q : Zg) (k : List Item) (o : Nat) (e : Env) (σ : Sto) : Prop :=
 match σ[o]? with
 | some (.loop _ _ _ .ready) => Run T Q k e (σ.set o .dead)
 | some (.loop _ _ _ (.done x)) => ZaP T Q x k e (σ.set o .dead)
 | _ => False
theorem Zl0 {n o : Nat} (h : Z9 o e σ (ZA (ZD T n) n Q k)) : Zei T Q k o e σ := by
 unfold Z9 at h
 unfold Zei
 split at h
 ·rename_i hσ; try rw [hσ]
  exact ⟨n, h⟩
 ·rename_i hσ; try rw [hσ]
  exact ⟨n, h⟩
 ·exact h.elim
theorem Zl1 {o : Nat} (h : Zei T Q k o e σ) : ∃ n, Z9 o e σ (ZA (ZD T n) n Q k) := by
 unfold Zei at h
 unfold Z9
 split at h
 ·rename_i hσ; try rw [hσ]
  exact h
 ·rename_i hσ; try rw [hσ]
  exact h
 ·exact h.elim
theorem Zkp {x : Opd} {ps : List Nat} {b : ACode} : Run T Q (.code (.rangeF x ps b) :: k) e σ ↔ match ev e x with
  | .clo (.func g) first captured => Cw T false g (first ++ [.yld σ.length] ++ captured) [] (σ ++ [.loop ps b e .ready]) fun _ σ' => Zei T Q k σ.length e σ'
  | _ => False := by
 cases hx : ev e x <;> try (simp only [ZaP, ZA, Zf, hx]; simp; done)
 rename_i f first captured
 cases f <;> try (simp only [ZaP, ZA, Zf, hx]; simp; done)
 rename_i f
 simp only
 constructor
 ·rintro ⟨n, h⟩
  simp only [ZA, Zf, hx] at h
  exact ⟨n, ZE T (Nat.le_refl n) _ _ _ _ _ _ _ (fun v σ' h => Zl0 h) h⟩
 ·intro h
  obtain ⟨v, σ', hk, h2⟩ := h.det
  obtain ⟨m, h1⟩ := Zl1 hk
  obtain ⟨n, h3⟩ := h2 (R' := fun u τ => u = v ∧ τ = σ') ⟨rfl, rfl⟩
  refine ⟨max n m, ?_⟩
  simp only [ZA, Zf, hx]
  refine ZE T (Nat.le_max_left n m) _ _ _ _ _ _ _ ?_ h3
  rintro u τ ⟨rfl, rfl⟩
  exact Zd2 (fun x e σ h => ZaC (ZE T (Nat.le_max_right n m)) (Nat.le_max_right n m) (fun _ _ _ h => h) _ _ _ _ h) h1
theorem Zoi (hT : T Zag = none) {o : Nat} {ys : List AVal} {R : Zs} : Cw T false Zag (.yld o :: ys) [] σ R ↔ match σ[o]? with
  | some (.loop ps body e .ready) => ys.length = ps.length ∧ Run T (fun x _ σ' => Zak o x σ' R) [.code body] (Zb6 e ps ys) (σ.set o (.loop ps body e .busy))
  | _ => False := by
 constructor
 ·rintro ⟨n, h⟩
  cases n with
  | zero => exact absurd h (by simp [ZD])
  | succ n =>
   simp only [ZD, hT, true_and, Za5] at h
   split at h
   ·rename_i hσ; try rw [hσ]
    exact ⟨h.1, n, h.2⟩
   ·exact h.elim
 ·intro h
  split at h
  ·rename_i hσ
   obtain ⟨h1, n, h2⟩ := h
   exact ⟨n + 1, by simp only [ZD, hT, true_and, Za5, hσ]; exact ⟨h1, h2⟩⟩
  ·exact h.elim

end
end Go.Abs
/- The frame of a walk: temporaries by number, values by what they are. -/
namespace Go.Abs
open Go

def Z8 : List (Nat × AVal) → Nat → AVal
 | [], _ => .und
 | (k, v) :: L, t => if t = k then v else Z8 L t
def ins : List (Nat × AVal) → Nat → AVal → List (Nat × AVal)
 | [], d, v => [(d, v)]
 | (k, w) :: L, d, v => if d < k then (d, v) :: (k, w) :: L else if d = k then (d, v) :: L else (k, w) :: ins L d v
def del : List (Nat × AVal) → Nat → List (Nat × AVal)
 | [], _ => []
 | (k, w) :: L, d => if d = k then del L d else (k, w) :: del L d
def ZnV : List (Nat × AVal) → List Nat → List (Nat × AVal)
 | L, [] => L
 | L, d :: ds => ZnV (del L d) ds
def Zeg : Nat → List AVal → List (Nat × AVal)
 | _, [] => []
 | i, a :: as => (i, a) :: Zeg (i + 1) as
def ZlN (m : Nat) : List (Nat × AVal) → List (Nat × AVal)
 | [] => []
 | (k, v) :: L => (k, if v.under m then v else .und) :: ZlN m L
def mkE (n : Nat) (L : List (Nat × AVal)) : Env := (List.range n).map (Z8 L)

theorem Zb7 (n : Nat) (L : List (Nat × AVal)) (t : Nat) : (mkE n L)[t]? = if t < n then some (Z8 L t) else none := by
 simp only [mkE, List.getElem?_map]
 split
 ·rename_i h; rw [List.getElem?_range h]; rfl
 ·rename_i h; rw [List.getElem?_eq_none (by simpa using h)]; rfl

theorem Za8 (n : Nat) (L : List (Nat × AVal)) (t : Nat) : (mkE n L).getD t .und = if t < n then Z8 L t else .und := by
 rw [List.getD_eq_getElem?_getD, Zb7]; split <;> rfl

theorem Zq1 (n : Nat) (L : List (Nat × AVal)) (t : Nat) : ev (mkE n L) (.tmp t) = if t < n then Z8 L t else .und := Za8 n L t
theorem Zq2 (e : Env) (v : AVal) : ev e (.cst v) = v := rfl

theorem Zgd : ∀ (L : List (Nat × AVal)) (d : Nat) (v : AVal) (t : Nat), Z8 (ins L d v) t = if t = d then v else Z8 L t
 | [], d, v, t => by simp [ins, Z8]
 | (k, w) :: L, d, v, t => by
  simp only [ins]
  split
  ·simp only [Z8]
  ·split
   ·rename_i h; subst h; simp only [Z8]; split <;> rfl
   ·simp only [Z8, Zgd L d v t]
    split <;> split <;> simp_all

theorem Zge : ∀ (L : List (Nat × AVal)) (d t : Nat), Z8 (del L d) t = if t = d then .und else Z8 L t
 | [], d, t => by simp [del, Z8]
 | (k, w) :: L, d, t => by
  simp only [del]
  split
  ·rename_i h; subst h; rw [Zge L]; simp only [Z8]; split <;> simp_all
  ·simp only [Z8, Zge L d t]
   split <;> split <;> simp_all

theorem Zc4 (n : Nat) (L : List (Nat × AVal)) (d : Nat) (v : AVal) : (mkE n L).set d v = mkE n (ins L d v) := by
 apply List.ext_getElem?
 intro t
 rw [List.getElem?_set, Zb7, Zb7, Zgd]
 have hl : (mkE n L).length = n := by simp [mkE]
 rw [hl]
 by_cases h : d = t
 ·subst h; simp
 ·rw [if_neg h]; simp [Ne.symm h]

theorem Zi1 (n : Nat) (L : List (Nat × AVal)) (d : Nat) : (mkE n L).set d .und = mkE n (del L d) := by
 apply List.ext_getElem?
 intro t
 rw [List.getElem?_set, Zb7, Zb7, Zge]
 have hl : (mkE n L).length = n := by simp [mkE]
 rw [hl]
 by_cases h : d = t
 ·subst h; simp
 ·rw [if_neg h]; simp [Ne.symm h]

theorem ZnW (n : Nat) (L : List (Nat × AVal)) (d : Nat) (v : AVal) : put (mkE n L) (some d) v = mkE n (ins L d v) := Zc4 n L d v
theorem ZnX (e : Env) (v : AVal) : put e none v = e := rfl

theorem Zhr : ∀ (as : List AVal) (i t : Nat), Z8 (Zeg i as) t = if i ≤ t then as.getD (t - i) .und else .und
 | [], i, t => by simp [Zeg, Z8]
 | a :: as, i, t => by
  simp only [Zeg, Z8, Zhr as (i + 1) t]
  by_cases h : t = i
  ·subst h; simp
  ·rw [if_neg h]
   by_cases h2 : i ≤ t
   ·rw [if_pos h2, if_pos (by omega)]
    obtain ⟨j, hj⟩ : ∃ j, t - i = j + 1 := ⟨t - i - 1, by omega⟩
    rw [show t - (i + 1) = j by omega, hj]; rfl
   ·rw [if_neg h2, if_neg (by omega)]

theorem Zi2 (n : Nat) (as : List AVal) (h : as.length ≤ n) : Zah n as = mkE n (Zeg 0 as) := by
 apply List.ext_getElem?
 intro t
 rw [Zb7, Zhr]
 simp only [Zah, Nat.zero_le, if_true, Nat.sub_zero]
 by_cases ht : t < as.length
 ·rw [List.getElem?_append_left ht, if_pos (by omega), List.getD_eq_getElem?_getD, List.getElem?_eq_getElem ht]; rfl
 ·rw [List.getElem?_append_right (by omega), List.getElem?_replicate, List.getD_eq_getElem?_getD, List.getElem?_eq_none (by omega)]
  by_cases h2 : t < n
  ·rw [if_pos (by omega), if_pos h2]; rfl
  ·rw [if_neg (by omega), if_neg h2]

theorem Zk5 : ∀ (ts : List Nat) (n : Nat) (L : List (Nat × AVal)), ts.foldl (fun e t => e.set t .und) (mkE n L) = mkE n (ZnV L ts)
 | [], _, _ => rfl
 | t :: ts, n, L => by simp only [List.foldl_cons, Zi1, ZnV, Zk5 ts]

theorem Zhs (m : Nat) : ∀ (L : List (Nat × AVal)) (t : Nat), Z8 (ZlN m L) t = if (Z8 L t).under m then Z8 L t else .und
 | [], t => by simp only [ZlN, Z8]; exact (ite_self _).symm
 | (k, v) :: L, t => by
  simp only [ZlN, Z8, Zhs m L t]
  split <;> rfl

theorem Zpw (m n : Nat) (L : List (Nat × AVal)) : Zaj m (mkE n L) = mkE n (ZlN m L) := by
 simp only [Zaj, mkE, List.map_map]
 apply List.map_congr_left
 intro t _
 simp only [Function.comp, Zhs]

def after (T : FuncId → Option AFunc) (Q : Zg) (k : List Item) (os : List AOper) (d : Option Nat) (e : Env) (r : Option (AVal × Sto)) : Prop :=
 match r with
 | some (v, σ') => Run T Q (.ops os :: k) (put e d v) σ'
 | none => False

section
variable {T : FuncId → Option AFunc} {Q : Zg} {k : List Item} {e : Env} {σ : Sto} {os : List AOper} {d : Option Nat} {n : Nat} {L : List (Nat × AVal)}

@[go_sem] theorem Zq5 {v : AVal} {σ' : Sto} : after T Q k os d e (some (v, σ')) ↔ Run T Q (.ops os :: k) (put e d v) σ' := Iff.rfl
@[go_sem] theorem Zq6 : after T Q k os d e none ↔ False := Iff.rfl
@[go_sem] theorem Zsl {c : Prop} [Decidable c] {a b : Option (AVal × Sto)} : after T Q k os d e (if c then a else b) ↔ if c then after T Q k os d e a else after T Q k os d e b := by split <;> rfl

theorem Za {c c' : ACode} (h : c = c') : Run T Q (.code c :: k) e σ ↔ Run T Q (.code c' :: k) e σ := by rw [h]

attribute [go_sem] Zpx Zn9 Zkm Zi7 Zi8 Zi9 Zpz Zoe Zof Zoa ZpA ZpB ZlX ZpC ZlS Zoc ZlT ZlU Zod ZpD Zim Zin ZlV ZlW Zog Zkn Zko ZpE
 Zq1 Zq2 Z8 ins del ZnV ZlN ZnW ZnX Zpw

@[go_sem] theorem Zvc : Zeg 0 [] = [] := rfl
@[go_sem] theorem Zvd {a : AVal} : Zeg 0 [a] = [(0, a)] := rfl
@[go_sem] theorem Zve {a b : AVal} : Zeg 0 [a, b] = [(0, a), (1, b)] := rfl
@[go_sem] theorem Zvf {a b c : AVal} : Zeg 0 [a, b, c] = [(0, a), (1, b), (2, c)] := rfl
@[go_sem] theorem Zvg {a b c d : AVal} : Zeg 0 [a, b, c, d] = [(0, a), (1, b), (2, c), (3, d)] := rfl
@[go_sem] theorem Zvh {a b c d e : AVal} : Zeg 0 [a, b, c, d, e] = [(0, a), (1, b), (2, c), (3, d), (4, e)] := rfl
@[go_sem] theorem Zvi {a b c d e f : AVal} : Zeg 0 [a, b, c, d, e, f] = [(0, a), (1, b), (2, c), (3, d), (4, e), (5, f)] := rfl
@[go_sem] theorem Zvj {a b c d e f g : AVal} : Zeg 0 [a, b, c, d, e, f, g] = [(0, a), (1, b), (2, c), (3, d), (4, e), (5, f), (6, g)] := rfl

@[go_sem] theorem Zvz {x : Opd} {a r : List Nat} : Run T Q (.ops (⟨d, .mv x, none, a, r⟩ :: os) :: k) e σ ↔ Run T Q (.ops os :: k) (put e d (ev e x)) σ := Zq (by simp) (by simp)

def ZnY (c a b : AVal) (σ : Sto) : Option (AVal × Sto) := match c with
 | .bool t => some (if t then a else b, σ)
 | _ => none
@[go_sem] theorem ZuG {c x y : Opd} {a r : List Nat} : Run T Q (.ops (⟨d, .pick c x y, none, a, r⟩ :: os) :: k) e σ ↔ after T Q k os d e (ZnY (ev e c) (ev e x) (ev e y) σ) := Zq (by simp) (by simp)
@[go_sem] theorem Zq7 {t : Bool} {a b : AVal} : ZnY (.bool t) a b σ = some (if t = true then a else b, σ) := by cases t <;> rfl

@[go_sem] theorem Ztw {z : List AVal} {a r : List Nat} : Run T Q (.ops (⟨d, .alloc z, none, a, r⟩ :: os) :: k) e σ ↔ Run T Q (.ops os :: k) (put e d (.ptr σ.length z.length 0)) (σ ++ [.cells false z]) := Zq (by simp) (by simp)

def Zq3 (m : Nat) (v : AVal) (σ : Sto) : Option (AVal × Sto) := if v.fits m then some (.ptr σ.length m 0, σ ++ [.cells false v.cells]) else none
@[go_sem] theorem Zvk {m : Nat} {x : Opd} {a r : List Nat} : Run T Q (.ops (⟨d, .box m x, none, a, r⟩ :: os) :: k) e σ ↔ after T Q k os d e (Zq3 m (ev e x) σ) := Zq (by simp) (by simp)

def Zke (z : List AVal) (ps : List (Nat × Nat × AVal)) (σ : Sto) : Option (AVal × Sto) := (Zbw z ps).map fun cs => (.agg cs, σ)
@[go_sem] theorem Ztx {z : List AVal} {ps : List (Nat × Nat × Opd)} {a r : List Nat} : Run T Q (.ops (⟨d, .build z ps, none, a, r⟩ :: os) :: k) e σ ↔ after T Q k os d e (Zke z (ps.map fun (o, s, x) => (o, s, ev e x)) σ) := Zq (by simp) (by simp)

def Zif (m l : Nat) (z : List AVal) (ps : List (Nat × Nat × AVal)) (σ : Sto) : Option (AVal × Sto) := (Zbw (List.replicate l z).flatten ps).map fun cs => (.ref σ.length cs.length 0 l m, σ ++ [.cells false cs])
@[go_sem] theorem Zsm {m l : Nat} {z : List AVal} {ps : List (Nat × Opd)} {a r : List Nat} : Run T Q (.ops (⟨d, .bslice m l z ps, none, a, r⟩ :: os) :: k) e σ ↔ after T Q k os d e (Zif m l z (ps.map fun (i, x) => (i * m, m, ev e x)) σ) := Zq (by simp) (by simp)

def Zkf (m l : Nat) (z : List AVal) (ps : List (Nat × Nat × AVal)) (σ : Sto) : Option (AVal × Sto) := (Zbw (List.replicate l z).flatten ps).bind fun cs => if AVal.pures cs = true ∧ cs.length = l * m ∧ 0 < m then some (.list m (ZY m l cs), σ) else none
@[go_sem] theorem Zty {m l : Nat} {z : List AVal} {ps : List (Nat × Opd)} {a r : List Nat} : Run T Q (.ops (⟨d, .flist m l z ps, none, a, r⟩ :: os) :: k) e σ ↔ after T Q k os d e (Zkf m l z (ps.map fun (i, x) => (i * m, m, ev e x)) σ) := Zq (by simp) (by simp)

def Zk6 (agg : Bool) (m : Nat) (v : AVal) (σ : Sto) : Option (AVal × Sto) := match v with
 | .fptr cs => (ZaM agg m cs).map (·, σ)
 | .ptr o gen off =>
  match σ[o]? with
  | some (.cells _ cs) => if cs.length = gen then (ZaM agg m (cs.drop off)).map (·, σ) else none
  | _ => none
 | _ => none
@[go_sem] theorem ZuH {g : Bool} {m : Nat} {x : Opd} {a r : List Nat} : Run T Q (.ops (⟨d, .load g m x, none, a, r⟩ :: os) :: k) e σ ↔ after T Q k os d e (Zk6 g m (ev e x) σ) := Zq (by simp) (by simp)

def Zgf (m : Nat) (p v : AVal) (σ : Sto) : Option (AVal × Sto) := match p with
 | .ptr o gen off =>
  match σ[o]? with
  | some (.cells nl cs) => if cs.length = gen ∧ off + m ≤ gen ∧ v.fits m then some (.und, σ.set o (.cells nl (Zl cs off v.cells))) else none
  | _ => none
 | _ => none
@[go_sem] theorem Ztz {m : Nat} {p x : Opd} {a r : List Nat} : Run T Q (.ops (⟨d, .store m p x, none, a, r⟩ :: os) :: k) e σ ↔ after T Q k os d e (Zgf m (ev e p) (ev e x) σ) := by
 rw [Zq (by simp) (by simp)]
 simp only [Zc, Zgf, ZbH, List.all_nil, and_true]
 rfl

def Zkg (v : AVal) (σ : Sto) : Option (AVal × Sto) := match v with
 | .ptr .. | .fptr _ | .clo (.func _) _ _ => some (v, σ)
 | _ => none
@[go_sem] theorem ZtA {x : Opd} {a r : List Nat} : Run T Q (.ops (⟨d, .nilck x, none, a, r⟩ :: os) :: k) e σ ↔ after T Q k os d e (Zkg (ev e x) σ) := Zq (by simp) (by simp)

def Za9 (op : BinOp) (x y : AVal) (σ : Sto) : Option (AVal × Sto) := (ZcE op x y).map (·, σ)
@[go_sem] theorem Zvl {op : BinOp} {x y : Opd} {a r : List Nat} : Run T Q (.ops (⟨d, .bin op x y, none, a, r⟩ :: os) :: k) e σ ↔ after T Q k os d e (Za9 op (ev e x) (ev e y) σ) := Zq (by simp) (by simp)

def Zig (neg : Bool) (sh : Shape) (x y : AVal) (σ : Sto) : Option (AVal × Sto) := (eqA sh x y).map fun b => (.bool (if neg then !b else b), σ)
@[go_sem] theorem Zvm {g : Bool} {sh : Shape} {x y : Opd} {a r : List Nat} : Run T Q (.ops (⟨d, .eqs g sh x y, none, a, r⟩ :: os) :: k) e σ ↔ after T Q k os d e (Zig g sh (ev e x) (ev e y) σ) := Zq (by simp) (by simp)

def Zgg (neg : Bool) (kd : NilK) (x : AVal) (σ : Sto) : Option (AVal × Sto) := match kd, x with
  | .sl, .nils | .pt, .nilp | .mp, .nilm | .fn, .nilf => some (.bool !neg, σ)
  | .sl, .emp | .sl, .list .. | .fn, .clo .. | .pt, .fptr _ | .mp, .fmap .. | .pt, .ptr .. | .mp, .map _ => some (.bool neg, σ)
  | .sl, .ref o gen _ _ _ =>
   match σ[o]? with
   | some (.cells nl cs) => if cs.length = gen then some (.bool (if nl && cs.isEmpty then !neg else neg), σ) else none
   | _ => none
  | _, _ => none
@[go_sem] theorem ZtB {g : Bool} {kd : NilK} {x : Opd} {a r : List Nat} : Run T Q (.ops (⟨d, .eqnil g kd x, none, a, r⟩ :: os) :: k) e σ ↔ after T Q k os d e (Zgg g kd (ev e x) σ) := Zq (by simp) (by simp)

def ZlO (neg : Bool) (x y : AVal) (σ : Sto) : Option (AVal × Sto) := match x, y with
  | .nilp, .nilp => some (.bool !neg, σ)
  | .nilp, .ptr .. | .ptr .., .nilp => some (.bool neg, σ)
  | .ptr o gen off, .ptr o' gen' off' =>
   match σ[o]?, σ[o']? with
   | some (.cells _ cs), some (.cells _ cs') =>
    if cs.length = gen ∧ cs'.length = gen' then some (.bool (if neg then !decide (o = o' ∧ off = off') else decide (o = o' ∧ off = off')), σ) else none
   | _, _ => none
  | _, _ => none
@[go_sem] theorem Zvn {g : Bool} {x y : Opd} {a r : List Nat} : Run T Q (.ops (⟨d, .eqp g x y, none, a, r⟩ :: os) :: k) e σ ↔ after T Q k os d e (ZlO g (ev e x) (ev e y) σ) := Zq (by simp) (by simp)

def unV (op : UnOp) (x : AVal) (σ : Sto) : Option (AVal × Sto) := (unA op x).map (·, σ)
@[go_sem] theorem ZvA {op : UnOp} {x : Opd} {a r : List Nat} : Run T Q (.ops (⟨d, .un op x, none, a, r⟩ :: os) :: k) e σ ↔ after T Q k os d e (unV op (ev e x) σ) := Zq (by simp) (by simp)

def ZnZ (kd : IntKind) (x : AVal) (σ : Sto) : Option (AVal × Sto) := match x with
 | .int _ n => some (.int kd (kd.wrap n), σ)
 | _ => none
@[go_sem] theorem ZuI {kd : IntKind} {x : Opd} {a r : List Nat} : Run T Q (.ops (⟨d, .conv kd x, none, a, r⟩ :: os) :: k) e σ ↔ after T Q k os d e (ZnZ kd (ev e x) σ) := Zq (by simp) (by simp)
@[go_sem] theorem Zsn {kd j : IntKind} {x : Int} : ZnZ kd (.int j x) σ = some (.int kd (kd.wrap x), σ) := rfl

def Zn0 (x : AVal) (σ : Sto) : Option (AVal × Sto) := match x with
 | .str s => some (.str s, σ)
 | _ => none
@[go_sem] theorem ZuJ {x : Opd} {a r : List Nat} : Run T Q (.ops (⟨d, .same x, none, a, r⟩ :: os) :: k) e σ ↔ after T Q k os d e (Zn0 (ev e x) σ) := Zq (by simp) (by simp)
@[go_sem] theorem Zso {s : ByteArray} : Zn0 (.str s) σ = some (.str s, σ) := rfl

def Zqy (t : TypeId) (x : AVal) (σ : Sto) : Option (AVal × Sto) := if x.isUnd then none else some (.iface t x, σ)
@[go_sem] theorem ZuK {t : TypeId} {x : Opd} {a r : List Nat} : Run T Q (.ops (⟨d, .mkif t x, none, a, r⟩ :: os) :: k) e σ ↔ after T Q k os d e (Zqy t (ev e x) σ) := Zq (by simp) (by simp)

@[go_sem] theorem ZuL {f : Fn} {xs ys : List Opd} {a r : List Nat} : Run T Q (.ops (⟨d, .mkfn f xs ys, none, a, r⟩ :: os) :: k) e σ ↔ Run T Q (.ops os :: k) (put e d (.clo f (xs.map (ev e)) (ys.map (ev e)))) σ := Zq (by simp) (by simp)
@[go_sem] theorem ZtC {a r : List Nat} : Run T Q (.ops (⟨d, .mkmap, none, a, r⟩ :: os) :: k) e σ ↔ Run T Q (.ops os :: k) (put e d (.map σ.length)) (σ ++ [.map [] []]) := Zq (by simp) (by simp)

def ZeF (m bytes : Nat) (z : List AVal) (l c : AVal) (σ : Sto) : Option (AVal × Sto) := match l, c with
 | .int _ l, .int _ c =>
  if 0 ≤ l ∧ l ≤ c ∧ bytes * c.toNat ≤ 2 * Zm ∧ c ≤ IntKind.i64.max then
   some (.ref σ.length (c.toNat * m) 0 l.toNat m, σ ++ [.cells false (List.replicate c.toNat z).flatten]) else none
 | _, _ => none
@[go_sem] theorem Zq8 {m b : Nat} {z : List AVal} {x y : Opd} {a r : List Nat} : Run T Q (.ops (⟨d, .mkslice m b z x y, none, a, r⟩ :: os) :: k) e σ ↔ after T Q k os d e (ZeF m b z (ev e x) (ev e y) σ) := Zq (by simp) (by simp)

def bnd (x : Option AVal) (d : Nat) : Option Nat := match x with
 | some v => Zbn v
 | none => some d
theorem ZcJ (e : Env) (x : Option Opd) (d : Nat) : Zam e x d = bnd (x.map (ev e)) d := by cases x <;> rfl
def Zdv (m : Nat) (v : AVal) (lo hi mx : Option AVal) (σ : Sto) : Option (AVal × Sto) := match v with
  | .nils => if bnd lo 0 = some 0 ∧ bnd hi 0 = some 0 ∧ bnd mx 0 = some 0 then some (.nils, σ) else none
  | .list k' xs =>
   match bnd lo 0, bnd hi xs.length, bnd mx xs.length with
   | some l, some h, some x =>
    if l ≤ h ∧ h ≤ x ∧ x ≤ xs.length ∧ m = k' then (if x = 0 ∧ mx.isSome then some (.emp, σ) else some (.list m ((xs.take h).drop l), σ)) else none
   | _, _, _ => none
  | .ref o gen off len k' =>
   match σ[o]? with
   | some (.cells nl cs) =>
    if cs.length = gen ∧ m = k' ∧ 0 < m then
     if nl && cs.isEmpty then
      (if bnd lo 0 = some 0 ∧ bnd hi 0 = some 0 ∧ bnd mx 0 = some 0 then some (.nils, σ) else none)
     else
     match mx with
     | none =>
      match bnd lo 0, bnd hi len with
      | some l, some h => if l ≤ h ∧ off + h * m ≤ gen then (if off + l * m = gen then some (.list m [], σ) else some (.ref o gen (off + l * m) (h - l) m, σ)) else none
      | _, _ => none
     | some _ =>
      match bnd lo 0, bnd hi len, bnd mx 0 with
      | some l, some h, some x => if l ≤ h ∧ h ≤ x ∧ off + x * m ≤ gen then some (if x = 0 then .emp else .und, σ) else none
      | _, _, _ => none
    else none
   | _ => none
  | _ => none
@[go_sem] theorem ZtD {m : Nat} {x : Opd} {lo hi mx : Option Opd} {a r : List Nat} : Run T Q (.ops (⟨d, .slice m x lo hi mx, none, a, r⟩ :: os) :: k) e σ ↔ after T Q k os d e (Zdv m (ev e x) (lo.map (ev e)) (hi.map (ev e)) (mx.map (ev e)) σ) := by
 rw [Zq (by simp) (by simp)]
 simp only [Zc, ZcJ]
 cases lo <;> cases hi <;> cases mx <;> rfl

def Zn1 (v : AVal) (lo hi : Option AVal) (σ : Sto) : Option (AVal × Sto) := match v with
  | .str s =>
   match bnd lo 0, bnd hi s.size with
   | some l, some h => if l ≤ h ∧ h ≤ s.size then some (.str (s.extract l h), σ) else none
   | _, _ => none
  | _ => none
@[go_sem] theorem ZtE {x : Opd} {lo hi : Option Opd} {a r : List Nat} : Run T Q (.ops (⟨d, .slstr x lo hi, none, a, r⟩ :: os) :: k) e σ ↔ after T Q k os d e (Zn1 (ev e x) (lo.map (ev e)) (hi.map (ev e)) σ) := by
 rw [Zq (by simp) (by simp)]
 simp only [Zc, ZcJ]
 rfl

def Zih (c m : Nat) (v : AVal) (lo hi : Option AVal) (σ : Sto) : Option (AVal × Sto) := match v, bnd lo 0, bnd hi c with
  | .ptr o gen off, some l, some h =>
   match σ[o]? with
   | some (.cells false cs) =>
    if cs.length = gen ∧ l ≤ h ∧ h ≤ c ∧ off + c * m = gen ∧ 0 < m then (if l = c then some (.list m [], σ) else some (.ref o gen (off + l * m) (h - l) m, σ)) else none
   | _ => none
  | .fptr cs, some l, some h => if l ≤ h ∧ h ≤ c ∧ c * m ≤ cs.length ∧ 0 < m then some (.list m (ZY m (h - l) (cs.drop (l * m))), σ) else none
  | _, _, _ => none
@[go_sem] theorem ZtF {c m : Nat} {x : Opd} {lo hi : Option Opd} {a r : List Nat} : Run T Q (.ops (⟨d, .slarr c m x lo hi, none, a, r⟩ :: os) :: k) e σ ↔ after T Q k os d e (Zih c m (ev e x) (lo.map (ev e)) (hi.map (ev e)) σ) := by
 rw [Zq (by simp) (by simp)]
 simp only [Zc, ZcJ]
 rfl

def Zii (off : Nat) (x : AVal) (σ : Sto) : Option (AVal × Sto) := match x with
  | .ptr o gen a => some (.ptr o gen (a + off), σ)
  | .fptr cs => some (.fptr (cs.drop off), σ)
  | _ => none
@[go_sem] theorem ZtG {off : Nat} {x : Opd} {a r : List Nat} : Run T Q (.ops (⟨d, .faddr off x, none, a, r⟩ :: os) :: k) e σ ↔ after T Q k os d e (Zii off (ev e x) σ) := Zq (by simp) (by simp)
@[go_sem] theorem Zq9 {off o gen a : Nat} : Zii off (.ptr o gen a) σ = some (.ptr o gen (a + off), σ) := rfl
@[go_sem] theorem ZqE {off : Nat} {cs : List AVal} : Zii off (.fptr cs) σ = some (.fptr (cs.drop off), σ) := rfl

def Zkh (off size : Nat) (agg : Bool) (x : AVal) (σ : Sto) : Option (AVal × Sto) := match x with
  | .agg cs => if off + size ≤ cs.length then (ZaM agg size (cs.drop off)).map (·, σ) else none
  | _ => none
@[go_sem] theorem ZtH {off s : Nat} {g : Bool} {x : Opd} {a r : List Nat} : Run T Q (.ops (⟨d, .field off s g x, none, a, r⟩ :: os) :: k) e σ ↔ after T Q k os d e (Zkh off s g (ev e x) σ) := Zq (by simp) (by simp)

def ZbG (m : Nat) (x i : AVal) (σ : Sto) : Option (AVal × Sto) := match x, Zbn i with
  | .list k' xs, some i => if m = k' then (xs[i]?).map fun v => (.fptr v.cells, σ) else none
  | .ref o gen off len k', some i =>
   match σ[o]? with
   | some (.cells _ cs) => if i < len ∧ m = k' ∧ cs.length = gen then some (.ptr o gen (off + i * m), σ) else none
   | _ => none
  | _, _ => none
@[go_sem] theorem ZtI {m : Nat} {x i : Opd} {a r : List Nat} : Run T Q (.ops (⟨d, .iaddr m x i, none, a, r⟩ :: os) :: k) e σ ↔ after T Q k os d e (ZbG m (ev e x) (ev e i) σ) := Zq (by simp) (by simp)

def Zcr (c m : Nat) (x i : AVal) (σ : Sto) : Option (AVal × Sto) := match x, Zbn i with
  | .ptr o gen off, some i => if i < c then some (.ptr o gen (off + i * m), σ) else none
  | .fptr cs, some i => if i < c then some (.fptr (cs.drop (i * m)), σ) else none
  | _, _ => none
@[go_sem] theorem Zsp {c m : Nat} {x i : Opd} {a r : List Nat} : Run T Q (.ops (⟨d, .iaddrA c m x i, none, a, r⟩ :: os) :: k) e σ ↔ after T Q k os d e (Zcr c m (ev e x) (ev e i) σ) := Zq (by simp) (by simp)

def Zqz (c m : Nat) (agg : Bool) (x i : AVal) (σ : Sto) : Option (AVal × Sto) := match x, Zbn i with
  | .agg cs, some i => if i < c ∧ i * m + m ≤ cs.length then (ZaM agg m (cs.drop (i * m))).map (·, σ) else none
  | _, _ => none
@[go_sem] theorem ZuM {c m : Nat} {g : Bool} {x i : Opd} {a r : List Nat} : Run T Q (.ops (⟨d, .idxA c m g x i, none, a, r⟩ :: os) :: k) e σ ↔ after T Q k os d e (Zqz c m g (ev e x) (ev e i) σ) := Zq (by simp) (by simp)

def ZqA (x i : AVal) (σ : Sto) : Option (AVal × Sto) := match x, Zbn i with
  | .str s, some i => (s[i]?).map fun b => (.int .u8 b.toNat, σ)
  | _, _ => none
@[go_sem] theorem ZuN {x i : Opd} {a r : List Nat} : Run T Q (.ops (⟨d, .idxS x i, none, a, r⟩ :: os) :: k) e σ ↔ after T Q k os d e (ZqA (ev e x) (ev e i) σ) := Zq (by simp) (by simp)

def Zki (sh : Shape) (zero : AVal) (ok : Bool) (i : AVal) (ks vs : List AVal) (σ : Sto) : Option (AVal × Sto) :=
 if eqA sh i i = some true then
  match Zbm sh i ks 0 with
  | some (some j) => (vs[j]?).map fun v => (if ok then .tup [v, .bool true] else v, σ)
  | some none => some (if ok then .tup [zero, .bool false] else zero, σ)
  | none => none
 else none
def Zk7 (sh : Shape) (zero : AVal) (ok : Bool) (m i : AVal) (σ : Sto) : Option (AVal × Sto) := match m with
  | .nilm => Zki sh zero ok i [] [] σ
  | .fmap ks vs => Zki sh zero ok i ks vs σ
  | .map o =>
   match σ[o]? with
   | some (.map ks vs) => Zki sh zero ok i ks vs σ
   | _ => none
  | _ => none
@[go_sem] theorem Zsq {sh : Shape} {z : AVal} {ok : Bool} {x i : Opd} {a r : List Nat} : Run T Q (.ops (⟨d, .lookup sh z ok x i, none, a, r⟩ :: os) :: k) e σ ↔ after T Q k os d e (Zk7 sh z ok (ev e x) (ev e i) σ) := Zq (by simp) (by simp)

def Zn2 (sh : Shape) (m i v : AVal) (σ : Sto) : Option (AVal × Sto) := match m with
  | .map o =>
   match σ[o]? with
   | some (.map ks vs) =>
    if eqA sh i i = some true then
     match Zbm sh i ks 0 with
     | some (some j) => if Zhx i (ks.getD j .und) then some (.und, σ.set o (.map ks (vs.set j v))) else none
     | some none => some (.und, σ.set o (.map (ks ++ [i]) (vs ++ [v])))
     | none => none
    else none
   | _ => none
  | _ => none
def Zk8 (sh : Shape) (zero m i : AVal) (σ : Sto) : Option (AVal × Sto) := match m with
  | .map o =>
   match σ[o]? with
   | some (.map ks vs) =>
    if eqA sh i i = some true then
     match Zbm sh i ks 0 with
     | some (some j) => if Zhx i (ks.getD j .und) then (vs[j]?).map fun v => (.tup [v, .int .i64 j], σ) else none
     | some none => some (.tup [zero, .int .i64 ks.length], σ.set o (.map (ks ++ [i]) (vs ++ [zero])))
     | none => none
    else none
   | _ => none
  | _ => none
@[go_sem] theorem Zsr {sh : Shape} {z : AVal} {m i : Opd} {a r : List Nat} : Run T Q (.ops (⟨d, .mapent sh z m i, none, a, r⟩ :: os) :: k) e σ ↔ after T Q k os d e (Zk8 sh z (ev e m) (ev e i) σ) := by
 rw [Zq (by simp) (by simp)]
 simp only [Zc, ZbH, List.all_nil, true_and]
 rfl
def Zn3 (m s v : AVal) (σ : Sto) : Option (AVal × Sto) := match m, s with
  | .map o, .int .i64 j =>
   match σ[o]? with
   | some (.map ks vs) => if 0 ≤ j ∧ j.toNat < vs.length then some (.und, σ.set o (.map ks (vs.set j.toNat v))) else none
   | _ => none
  | _, _ => none
@[go_sem] theorem ZtJ {m s v : Opd} {a r : List Nat} : Run T Q (.ops (⟨d, .entst m s v, none, a, r⟩ :: os) :: k) e σ ↔ after T Q k os d e (Zn3 (ev e m) (ev e s) (ev e v) σ) := by
 rw [Zq (by simp) (by simp)]
 simp only [Zc, ZbH, List.all_nil, and_true]
 rfl
def Zn4 (m bytes : Nat) (z : List AVal) (l c : AVal) (σ : Sto) : Option (AVal × Sto) := match l, c with
 | .int .i64 l, .int .i64 c =>
  if 0 ≤ l ∧ l = c ∧ bytes * c.toNat ≤ 2 * Zm ∧ c ≤ IntKind.i64.max ∧ z.length = m ∧ 0 < m ∧ AVal.pures (List.replicate c.toNat z).flatten = true then
   some (.list m (ZY m c.toNat (List.replicate c.toNat z).flatten), σ) else none
 | _, _ => none
@[go_sem] theorem ZtK {m b : Nat} {z : List AVal} {x y : Opd} {a r : List Nat} : Run T Q (.ops (⟨d, .mkslF m b z x y, none, a, r⟩ :: os) :: k) e σ ↔ after T Q k os d e (Zn4 m b z (ev e x) (ev e y) σ) := Zq (by simp) (by simp)
def allocnV (zero : List AVal) (off m : Nat) (σ : Sto) : Option (AVal × Sto) := match zero[off]? with
  | some .nils => some (.ptr σ.length zero.length 0, σ ++ [.cells false (zero.set off (.ref (σ.length + 1) 0 0 0 m)), .cells true []])
  | _ => none
@[go_sem] theorem Zss {z : List AVal} {off m : Nat} {a r : List Nat} : Run T Q (.ops (⟨d, .allocn z off m, none, a, r⟩ :: os) :: k) e σ ↔ after T Q k os d e (allocnV z off m σ) := Zq (by simp) (by simp)
@[go_sem] theorem ZtL {sh : Shape} {m i v : Opd} {a r : List Nat} : Run T Q (.ops (⟨d, .mapup sh m i v, none, a, r⟩ :: os) :: k) e σ ↔ after T Q k os d e (Zn2 sh (ev e m) (ev e i) (ev e v) σ) := by
 rw [Zq (by simp) (by simp)]
 simp only [Zc, ZbH, List.all_nil, true_and]
 rfl

def Zn5 (x : AVal) (i : Nat) (σ : Sto) : Option (AVal × Sto) := match x with
  | .tup vs => (vs[i]?).map (·, σ)
  | _ => none
@[go_sem] theorem ZuO {x : Opd} {i : Nat} {a r : List Nat} : Run T Q (.ops (⟨d, .extr x i, none, a, r⟩ :: os) :: k) e σ ↔ after T Q k os d e (Zn5 (ev e x) i σ) := Zq (by simp) (by simp)
@[go_sem] theorem Zst {vs : List AVal} {i : Nat} : Zn5 (.tup vs) i σ = (vs[i]?).map (·, σ) := rfl

def Zi3 (kd : LenK) (x : AVal) (σ : Sto) : Option (AVal × Sto) := match kd, x with
  | .sl, .nils | .sl, .emp | .mp, .nilm => some (.int .i64 0, σ)
  | .sl, .list _ xs => some (.int .i64 xs.length, σ)
  | .str, .str s => some (.int .i64 s.size, σ)
  | .mp, .fmap ks _ => some (.int .i64 ks.length, σ)
  | .sl, .ref o gen _ len _ =>
   match σ[o]? with
   | some (.cells _ cs) => if cs.length = gen then some (.int .i64 len, σ) else none
   | _ => none
  | .mp, .map o =>
   match σ[o]? with
   | some (.map ks _) => some (.int .i64 ks.length, σ)
   | _ => none
  | _, _ => none
@[go_sem] theorem Zvo {kd : LenK} {x : Opd} {a r : List Nat} : Run T Q (.ops (⟨d, .len kd x, none, a, r⟩ :: os) :: k) e σ ↔ after T Q k os d e (Zi3 kd (ev e x) σ) := Zq (by simp) (by simp)

def Ztv (x : AVal) (σ : Sto) : Option (AVal × Sto) := match x with
  | .nils | .emp => some (.int .i64 0, σ)
  | _ => none
@[go_sem] theorem Zvp {x : Opd} {a r : List Nat} : Run T Q (.ops (⟨d, .cap x, none, a, r⟩ :: os) :: k) e σ ↔ after T Q k os d e (Ztv (ev e x) σ) := Zq (by simp) (by simp)

def Zbv (m bytes : Nat) (s x : AVal) (σ : Sto) : Option (AVal × Sto) := match Zai σ x with
  | none => none
  | some (c, new) =>
   if new.length = c * m ∧ 0 < m ∧ new.all AVal.one then
    match s with
    | .nils | .emp => if c = 0 then some (s, σ) else if c * bytes ≤ Zm then some (.ref σ.length (c * m) 0 c m, σ ++ [.cells false new]) else none
    | .ref o gen off len k' =>
     match σ[o]? with
     | some (.cells nl cs) =>
      if cs.length = gen ∧ m = k' then
       if c = 0 then some (s, σ)
       else if off + (len + c) * m ≤ gen then some (.ref o gen off (len + c) m, σ.set o (.cells nl (Zl cs (off + len * m) new)))
       else if off = 0 ∧ (len + c) * bytes ≤ Zm then some (.ref o ((len + c) * m) 0 (len + c) m, σ.set o (.cells nl (cs.take (len * m) ++ new)))
       else none
      else none
     | _ => none
    | _ => none
   else none
@[go_sem] theorem Zsu {m b : Nat} {s x : Opd} {a r : List Nat} : Run T Q (.ops (⟨d, .append m b s x, none, a, r⟩ :: os) :: k) e σ ↔ after T Q k os d e (Zbv m b (ev e s) (ev e x) σ) := by
 rw [Zq (by simp) (by simp)]
 simp only [Zc, ZbH, List.all_nil, and_true]
 rfl

def Zi4 (m bytes : Nat) (zero : List AVal) (s x : AVal) (σ : Sto) : Option (AVal × Sto) := match s, x with
  | .nils, .int .i64 n =>
   if 0 ≤ n ∧ n.toNat * bytes ≤ Zm ∧ 0 < m then
    (if n = 0 then some (.nils, σ) else some (.ref σ.length (n.toNat * m) 0 n.toNat m, σ ++ [.cells false (List.replicate n.toNat zero).flatten])) else none
  | .ref o gen off len k', .int .i64 n =>
   match σ[o]? with
   | some (.cells nl cs) =>
    if 0 ≤ n ∧ (len + n.toNat) * bytes ≤ Zm ∧ 0 < m ∧ cs.length = gen ∧ m = k' ∧ off = 0 ∧ len * m = gen ∧ AVal.pures zero then
     some (.ref o ((len + n.toNat) * m) 0 (len + n.toNat) m, σ.set o (.cells nl (cs ++ (List.replicate n.toNat zero).flatten))) else none
   | _ => none
  | _, _ => none
@[go_sem] theorem Zra {m b : Nat} {z : List AVal} {s x : Opd} {a r : List Nat} : Run T Q (.ops (⟨d, .appendz m b z s x, none, a, r⟩ :: os) :: k) e σ ↔ after T Q k os d e (Zi4 m b z (ev e s) (ev e x) σ) := Zq (by simp) (by simp)

def Zi5 (m bytes : Nat) (s x : AVal) (σ : Sto) : Option (AVal × Sto) := match Zai σ x, s with
  | some (c, new), .ref o gen off len k' =>
   match σ[o]? with
   | some (.cells false cs) =>
    if new.length = c * m ∧ 0 < m ∧ new.all AVal.one ∧ cs.length = gen ∧ m = k' ∧ off = 0 ∧ len * m = gen ∧ (len + c) * bytes ≤ Zm ∧ AVal.pures (cs ++ new) then
     some (.list m (ZY m (len + c) (cs ++ new)), σ.set o .dead)
    else none
   | _ => none
  | _, _ => none
@[go_sem] theorem Zrb {m b : Nat} {s x : Opd} {a r : List Nat} : Run T Q (.ops (⟨d, .appendF m b s x, none, a, r⟩ :: os) :: k) e σ ↔ after T Q k os d e (Zi5 m b (ev e s) (ev e x) σ) := by
 rw [Zq (by simp) (by simp)]
 simp only [Zc, ZbH, List.all_nil, true_and]
 rfl

def ZqB (m : Nat) (d s : AVal) (σ : Sto) : Option (AVal × Sto) := match d, Zai σ s with
  | .nils, some _ => some (.int .i64 0, σ)
  | .ref o gen off len k', some (c, src) =>
   match σ[o]? with
   | some (.cells nl cs) =>
    if cs.length = gen ∧ m = k' ∧ src.length = c * m ∧ off + len * m ≤ gen ∧ src.all AVal.one then
     some (.int .i64 (min c len : Nat), σ.set o (.cells nl (Zl cs off (src.take (min c len * m))))) else none
   | _ => none
  | _, _ => none
@[go_sem] theorem ZuP {m : Nat} {x y : Opd} {a r : List Nat} : Run T Q (.ops (⟨d, .copy m x y, none, a, r⟩ :: os) :: k) e σ ↔ after T Q k os d e (ZqB m (ev e x) (ev e y) σ) := by
 rw [Zq (by simp) (by simp)]
 simp only [Zc, ZbH, List.all_nil, true_and]
 rfl

def Zk9 (sh : Shape) (m i : AVal) (σ : Sto) : Option (AVal × Sto) := match m with
  | .map o =>
   match σ[o]? with
   | some (.map ks vs) =>
    if eqA sh i i = some true then
     match Zbm sh i ks 0 with
     | some (some _) => none
     | some none => some (.tup [], σ)
     | none => none
    else none
   | _ => none
  | _ => none
@[go_sem] theorem Zsv {sh : Shape} {m i : Opd} {a r : List Nat} : Run T Q (.ops (⟨d, .delete sh m i, none, a, r⟩ :: os) :: k) e σ ↔ after T Q k os d e (Zk9 sh (ev e m) (ev e i) σ) := Zq (by simp) (by simp)

def Zij (isMax : Bool) (xs : List AVal) (σ : Sto) : Option (AVal × Sto) := match xs with
  | .int k a :: rest =>
   (rest.foldlM (fun (m : Int) (v : AVal) => match v with
    | .int _ y => some (if isMax then (if m < y then y else m) else (if y < m then y else m))
    | _ => none) a).map fun m => (.int k m, σ)
  | _ => none
@[go_sem] theorem Zsw {g : Bool} {xs : List Opd} {a r : List Nat} : Run T Q (.ops (⟨d, .minmax g xs, none, a, r⟩ :: os) :: k) e σ ↔ after T Q k os d e (Zij g (xs.map (ev e)) σ) := Zq (by simp) (by simp)
@[go_sem] theorem ZqF {g : Bool} {kd kd' : IntKind} {x y : Int} : Zij g [.int kd x, .int kd' y] σ = some (.int kd (if g = true then (if x < y then y else x) else (if y < x then y else x)), σ) := by cases g <;> rfl

def ZqC (c m : Nat) (x : AVal) (σ : Sto) : Option (AVal × Sto) := match x with
  | .ref o gen off len k' =>
   match σ[o]? with
   | some (.cells false cs) => if cs.length = gen ∧ m = k' ∧ c ≤ len then some (.ptr o gen off, σ) else none
   | _ => none
  | .list k' xs => if c ≤ xs.length ∧ 0 < c ∧ m = k' then some (.fptr ((xs.take c).flatMap AVal.cells), σ) else none
  | _ => none
@[go_sem] theorem ZuQ {c m : Nat} {x : Opd} {a r : List Nat} : Run T Q (.ops (⟨d, .arrp c m x, none, a, r⟩ :: os) :: k) e σ ↔ after T Q k os d e (ZqC c m (ev e x) σ) := Zq (by simp) (by simp)

def Zp (T : FuncId → Option AFunc) (Q : Zg) (k : List Item) (os : List AOper) (d : Option Nat) (e : Env) (σ : Sto) (p : Bool) (f : FuncId) (args : List AVal) : Prop := Cw T p f args [] σ fun v σ' => Run T Q (.ops os :: k) (put e d v) σ'
@[go_sem] theorem ZuR {p : Bool} {f : FuncId} {xs : List Opd} {a r : List Nat} : Run T Q (.ops (⟨d, .call p f xs, none, a, r⟩ :: os) :: k) e σ ↔ Zp T Q k os d e σ p f (xs.map (ev e)) := Zoh
theorem callK_of {f : FuncId} {args : List AVal} {v : AVal} (h : ∀ {lv : List Nat} {σ : Sto} {R : Zs}, Cw T true f args lv σ R ↔ R v σ) : Zp T Q k os d e σ true f args ↔ Run T Q (.ops os :: k) (put e d v) σ := h
def Zik (T : FuncId → Option AFunc) (Q : Zg) (k : List Item) (os : List AOper) (d : Option Nat) (e : Env) (σ : Sto) (p : Bool) (args : List AVal) (x : AVal) : Prop := match x with
 | .clo (.func f) first captured => Zp T Q k os d e σ p f (first ++ args ++ captured)
 | .yld l => p = false ∧ Zp T Q k os d e σ false Zag (.yld l :: args)
 | _ => False
@[go_sem] theorem Zrc {args : List AVal} {l : Nat} : Zik T Q k os d e σ false args (.yld l) ↔ Zp T Q k os d e σ false Zag (.yld l :: args) := by
 simp only [Zik, true_and]
@[go_sem] theorem ZtM {p : Bool} {x : Opd} {xs : List Opd} {a r : List Nat} : Run T Q (.ops (⟨d, .callv p x xs, none, a, r⟩ :: os) :: k) e σ ↔ Zik T Q k os d e σ p (xs.map (ev e)) (ev e x) := ZlY
@[go_sem] theorem Zrd {p : Bool} {args first captured : List AVal} {f : FuncId} : Zik T Q k os d e σ p args (.clo (.func f) first captured) ↔ Zp T Q k os d e σ p f (first ++ args ++ captured) := Iff.rfl

def Zkj (T : FuncId → Option AFunc) (Q : Zg) (k : List Item) (os : List AOper) (n : Nat) (L : List (Nat × AVal)) (σ : Sto) (d : Option Nat) (o : AOp) (a r : List Nat) (want : Bool) (x : AVal) : Prop := match x with
 | .bool b => if b = want then Run T Q (.ops (⟨d, o, none, a, r⟩ :: os) :: k) (mkE n L) σ else Run T Q (.ops os :: k) (put (mkE n L) d ZaY) σ
 | .tup _ => Run T Q (.ops os :: k) (put (mkE n L) d ZaY) σ
 | _ => False
@[go_sem] theorem Zre {o : AOp} {want : Bool} {a r : List Nat} {vs : List AVal} : Zkj T Q k os n L σ d o a r want (.tup vs) ↔ Run T Q (.ops os :: k) (put (mkE n L) d ZaY) σ := Iff.rfl
@[go_sem] theorem ZtN {o : AOp} {g : Nat} {want : Bool} {a r : List Nat} : Run T Q (.ops (⟨d, o, some (some g, want), a, r⟩ :: os) :: k) (mkE n L) σ ↔ Zkj T Q k os n L σ d o a r want (if g < n then Z8 L g else .und) := by
 rw [ZlZ, Zb7]
 by_cases h : g < n
 ·rw [if_pos h, if_pos h]
  cases Z8 L g <;> rfl
 ·rw [if_neg h, if_neg h]
  exact Iff.rfl
@[go_sem] theorem ZqG {o : AOp} {want b : Bool} {a r : List Nat} : Zkj T Q k os n L σ d o a r want (.bool b) ↔ if b = want then Run T Q (.ops (⟨d, o, none, a, r⟩ :: os) :: k) (mkE n L) σ else Run T Q (.ops os :: k) (put (mkE n L) d ZaY) σ := Iff.rfl

def ZqD (T : FuncId → Option AFunc) (Q : Zg) (k : List Item) (e : Env) (σ : Sto) (x : ACode) (y : ACode) (c : AVal) : Prop := match c with
 | .bool t => if t = true then Run T Q (.code x :: k) e σ else Run T Q (.code y :: k) e σ
 | _ => False
def Zkk (T : FuncId → Option AFunc) (Q : Zg) (k : List Item) (e : Env) (σ : Sto) (ps : List Nat) (b : ACode) (f : FuncId) (first captured : List AVal) : Prop :=
 Cw T false f (first ++ [.yld σ.length] ++ captured) [] (σ ++ [.loop ps b e .ready]) fun _ σ' => Zei T Q k σ.length e σ'
def Zn6 (T : FuncId → Option AFunc) (Q : Zg) (k : List Item) (e : Env) (σ : Sto) (ps : List Nat) (b : ACode) (x : AVal) : Prop := match x with
 | .clo (.func f) first captured => Zkk T Q k e σ ps b f first captured
 | _ => False
@[go_sem] theorem Zsx {x : Opd} {ps : List Nat} {b : ACode} : Run T Q (.code (.rangeF x ps b) :: k) e σ ↔ Zn6 T Q k e σ ps b (ev e x) := Zkp
@[go_sem] theorem Zrf {ps : List Nat} {b : ACode} {f : FuncId} {first captured : List AVal} : Zn6 T Q k e σ ps b (.clo (.func f) first captured) ↔ Zkk T Q k e σ ps b f first captured := Iff.rfl
@[go_sem] theorem Zsy {o : Nat} {v : AVal} : (AVal.yld o).apart v = (!v.isUnd && v.names fun q => decide (o ≠ q)) := rfl
@[go_sem] theorem Zsz {o : Nat} : (AVal.yld o).there = true := rfl

@[go_sem] theorem ZuS {c : Opd} {x y : ACode} : Run T Q (.code (.cond c x y) :: k) e σ ↔ ZqD T Q k e σ x y (ev e c) := Zob
@[go_sem] theorem Zrg {t : Bool} {x y : ACode} : ZqD T Q k e σ x y (.bool t) ↔ if t = true then Run T Q (.code x :: k) e σ else Run T Q (.code y :: k) e σ := Iff.rfl

@[go_sem] theorem ZuT {ts : List Nat} : Run T Q (.code (.ghost (.kill ts)) :: k) (mkE n L) σ ↔ Run T Q k (mkE n (ZnV L ts)) σ := by
 rw [Zcd]; simp only [Zac, Zk5]

def Zf6 (v : AVal) (σ : Sto) : Option (AVal × Sto) := match v with
  | .ref o gen off len k =>
   match σ[o]? with
   | some (.cells nl cs) =>
    if cs.length = gen ∧ off + len * k ≤ gen ∧ 0 < k ∧ AVal.pures cs then
     some (if nl && cs.isEmpty then .nils else .list k (ZY k len ((cs.drop off).take (len * k))), σ.set o .dead)
    else none
   | _ => none
  | .ptr o gen off =>
   match σ[o]? with
   | some (.cells _ cs) => if cs.length = gen ∧ AVal.pures cs then some (.fptr (cs.drop off), σ.set o .dead) else none
   | _ => none
  | .map o =>
   match σ[o]? with
   | some (.map ks vs) => if AVal.pures ks ∧ AVal.pures vs then some (.fmap ks vs, σ.set o .dead) else none
   | _ => none
  | v => if v.pure then some (v, σ) else none

def Zfl (T : FuncId → Option AFunc) (Q : Zg) (k : List Item) (n : Nat) (L : List (Nat × AVal)) (t : Nat) (r : Option (AVal × Sto)) : Prop := match r with
 | some (v, σ') => Run T Q k (mkE n (ins L t v)) σ'
 | none => False
@[go_sem] theorem Zcs {t : Nat} {v : AVal} {σ' : Sto} : Zfl T Q k n L t (some (v, σ')) ↔ Run T Q k (mkE n (ins L t v)) σ' := Iff.rfl
@[go_sem] theorem Zdw {t : Nat} : Zfl T Q k n L t none ↔ False := Iff.rfl

theorem Zn7 (n : Nat) (L : List (Nat × AVal)) (t : Nat) : mkE n (ins L t (Z8 L t)) = mkE n L := by
 apply List.ext_getElem?
 intro i
 rw [Zb7, Zb7, Zgd]
 split
 ·split
  ·rename_i h; rw [h]
  ·rfl
 ·rfl

@[go_sem] theorem ZsA {t : Nat} : Run T Q (.code (.ghost (.freeze t)) :: k) (mkE n L) σ ↔ if t < n then Zfl T Q k n L t (Zf6 (Z8 L t) σ) else Run T Q k (mkE n L) σ := by
 rw [Zcd]
 simp only [Zac, Za8]
 by_cases h : t < n
 ·rw [if_pos h, if_pos h]
  have hsame := Zn7 n L t
  generalize hx : Z8 L t = x at hsame
  cases x <;> simp only [Zf6]
  case ref o gen off len k' =>
   cases σ[o]? with
   | none => exact Iff.rfl
   | some ob =>
    cases ob with
    | cells nl cs =>
     simp only
     by_cases hc : (cs.length = gen ∧ off + len * k' ≤ gen ∧ 0 < k' ∧ AVal.pures cs = true)
     ·rw [if_pos hc, if_pos hc]; simp only [Zcs, Zc4]
     ·rw [if_neg hc, if_neg hc]; simp only [Zdw]
    | _ => exact Iff.rfl
  case ptr o gen off =>
   cases σ[o]? with
   | none => exact Iff.rfl
   | some ob =>
    cases ob with
    | cells nl cs =>
     simp only
     by_cases hc : (cs.length = gen ∧ AVal.pures cs = true)
     ·rw [if_pos hc, if_pos hc]; simp only [Zcs, Zc4]
     ·rw [if_neg hc, if_neg hc]; simp only [Zdw]
    | _ => exact Iff.rfl
  case map o =>
   cases σ[o]? with
   | none => exact Iff.rfl
   | some ob =>
    cases ob with
    | map ks vs =>
     simp only
     by_cases hc : (AVal.pures ks = true ∧ AVal.pures vs = true)
     ·rw [if_pos hc, if_pos hc]; simp only [Zcs, Zc4]
     ·rw [if_neg hc, if_neg hc]; simp only [Zdw]
    | _ => exact Iff.rfl
  all_goals
   split
   ·rename_i h; split at h <;> simp_all [Zfl]
   ·rename_i h; split at h <;> simp_all [Zfl]
 ·rw [if_neg h, if_neg h]
  simp [AVal.names]

@[go_sem] theorem ZsB {t m : Nat} : Run T Q (.code (.ghost (.nilref t m)) :: k) (mkE n L) σ ↔ if t < n then (match Z8 L t with
  | .nils => Run T Q k (mkE n (ins L t (.ref σ.length 0 0 0 m))) (σ ++ [.cells true []])
  | _ => False) else False := by
 rw [Zcd]
 simp only [Zac, Za8]
 by_cases h : t < n
 ·rw [if_pos h, if_pos h]
  cases Z8 L t <;> simp [Zc4]
 ·rw [if_neg h, if_neg h]

@[go_sem] theorem ZsC {t off m : Nat} : Run T Q (.code (.ghost (.nilagg t off m)) :: k) (mkE n L) σ ↔ if t < n then (match ZdO off m (Z8 L t) σ.length with
  | some v => Run T Q k (mkE n (ins L t v)) (σ ++ [.cells true []])
  | none => False) else False := by
 rw [Zcd]
 simp only [Zac, Za8]
 by_cases h : t < n
 ·rw [if_pos h, if_pos h]
  cases ZdO off m (Z8 L t) σ.length <;> simp [Zc4]
 ·rw [if_neg h, if_neg h]; simp [ZdO]
@[go_sem] theorem ZqH {off m : Nat} {cs : List AVal} {i : Nat} : ZdO off m (.agg cs) i = match cs[off]? with
  | some .nils => some (.agg (cs.set off (.ref i 0 0 0 m)))
  | _ => none := rfl

@[go_sem] theorem Zrh {t : Nat} : Run T Q (.code (.ghost (.dfreeze t)) :: k) (mkE n L) σ ↔ if t < n then Zfl T Q k n L t (Zab Zh σ (Z8 L t)) else Run T Q k (mkE n L) σ := by
 rw [Zcd]
 simp only [Zac, Za8]
 by_cases h : t < n
 ·rw [if_pos h, if_pos h]
  cases Zab Zh σ (Z8 L t) with
  | none => exact Iff.rfl
  | some p => obtain ⟨v, τ⟩ := p; simp only [Zc4, Zcs]
 ·rw [if_neg h, if_neg h]
  have e1 : Zab Zh σ AVal.und = some (.und, σ) := by simp [Zh, Zab, AVal.names]
  have e2 : (mkE n L).set t .und = mkE n L := List.set_eq_of_length_le (by simp [mkE]; omega)
  simp only [e1, e2]

def Zn8 (v : AVal) (σ : Sto) : Option Sto := match v with
  | .ref o gen _ _ _ | .ptr o gen _ =>
   match σ[o]? with
   | some (.cells nl cs) =>
    if cs.length = gen then
     match Zan (Zab Zh) σ cs with
     | some (cs', σ1) =>
      match σ1[o]? with
      | some (.cells _ _) => some (σ1.set o (.cells nl cs'))
      | _ => none
     | none => none
    else none
   | _ => none
  | _ => none
def Zil (T : FuncId → Option AFunc) (Q : Zg) (k : List Item) (e : Env) (r : Option Sto) : Prop := match r with
 | some σ' => Run T Q k e σ'
 | none => False
@[go_sem] theorem ZqI {σ' : Sto} : Zil T Q k e (some σ') ↔ Run T Q k e σ' := Iff.rfl
@[go_sem] theorem ZqJ : Zil T Q k e none ↔ False := Iff.rfl
@[go_sem] theorem ZtO {t : Nat} : Run T Q (.code (.ghost (.inner t)) :: k) (mkE n L) σ ↔ Zil T Q k (mkE n L) (Zn8 (if t < n then Z8 L t else .und) σ) := by
 rw [Zcd]
 simp only [Zac, Za8]
 generalize (if t < n then Z8 L t else AVal.und) = x
 unfold Zn8
 have key : ∀ (o gen : Nat), (match (match σ[o]? with
   | some (.cells nl cs) =>
    if cs.length = gen then
     match Zan (Zab Zh) σ cs with
     | some (cs', σ1) =>
      match σ1[o]? with
      | some (.cells _ _) => some (mkE n L, σ1.set o (.cells nl cs'))
      | _ => none
     | none => none
    else none
   | _ => none) with
  | some (e', σ') => Run T Q k e' σ'
  | none => False) ↔ Zil T Q k (mkE n L) (match σ[o]? with
   | some (.cells nl cs) =>
    if cs.length = gen then
     match Zan (Zab Zh) σ cs with
     | some (cs', σ1) =>
      match σ1[o]? with
      | some (.cells _ _) => some (σ1.set o (.cells nl cs'))
      | _ => none
     | none => none
    else none
   | _ => none) := by
  intro o gen
  cases σ[o]? with
  | none => exact Iff.rfl
  | some ob =>
   cases ob with
   | cells nl cs =>
    by_cases hc : cs.length = gen
    ·simp only [if_pos hc]
     cases Zan (Zab Zh) σ cs with
     | none => exact Iff.rfl
     | some p =>
      obtain ⟨cs', σ1⟩ := p
      simp only
      cases σ1[o]? with
      | none => exact Iff.rfl
      | some ob1 => cases ob1 <;> exact Iff.rfl
    ·simp only [if_neg hc]; exact Iff.rfl
   | _ => exact Iff.rfl
 cases x <;> first | exact Iff.rfl | exact key _ _

def Zq4 (s : SepC) (n : Nat) (L : List (Nat × AVal)) : Bool := s.ws.all (fun t => (if t < n then Z8 L t else .und).there) && s.ps.all (fun t => (if t < n then Z8 L t else .und).pure) && s.chk.all fun p => p.1.all fun x => p.2.all fun y => (if x < n then Z8 L x else .und).apart (if y < n then Z8 L y else .und)
@[go_sem] theorem Zvq {s : SepC} : Run T Q (.sep s :: k) (mkE n L) σ ↔ Zq4 s n L = true ∧ Run T Q k (mkE n L) σ := by
 rw [Zpy]
 simp only [ZeH, Zq4, Za8]
@[go_sem] theorem ZuU {ws ps : List Nat} {chk : List (List Nat × List Nat)} : Zq4 ⟨ws, ps, chk⟩ n L = (ws.all (fun t => (if t < n then Z8 L t else .und).there) && ps.all (fun t => (if t < n then Z8 L t else .und).pure) && chk.all fun p => p.1.all fun x => p.2.all fun y => (if x < n then Z8 L x else .und).apart (if y < n then Z8 L y else .und)) := rfl
@[go_sem] theorem ZsD {o g f l k : Nat} : (AVal.ref o g f l k).there = true := rfl
@[go_sem] theorem ZsE {o g f : Nat} : (AVal.ptr o g f).there = true := rfl
@[go_sem] theorem ZsF {o : Nat} : (AVal.map o).there = true := rfl
theorem names_of_pure {p : Nat → Bool} : ∀ (v : AVal), v.pure = true → v.names p = true := by
 intro v
 refine AVal.rec (motive_1 := fun v => v.names (fun _ => false) = true → v.names p = true) (motive_2 := fun vs => AVal.namesL (fun _ => false) vs = true → AVal.namesL p vs = true)
  ?_ ?_ ?_ ?_ ?_ ?_ ?_ ?_ ?_ ?_ ?_ ?_ ?_ ?_ ?_ ?_ ?_ ?_ ?_ ?_ ?_ ?_ ?_ v <;> intros <;> simp_all [AVal.names, AVal.namesL]
@[go_sem] theorem ZsG {o g f l k : Nat} {v : AVal} : (AVal.ref o g f l k).apart v = (!v.isUnd && v.names fun q => decide (o ≠ q)) := rfl
@[go_sem] theorem ZsH {o g f : Nat} {v : AVal} : (AVal.ptr o g f).apart v = (!v.isUnd && v.names fun q => decide (o ≠ q)) := rfl
@[go_sem] theorem ZsI {o : Nat} {v : AVal} : (AVal.map o).apart v = (!v.isUnd && v.names fun q => decide (o ≠ q)) := rfl
theorem apart_pure {u v : AVal} (h : u.pure = true) (hv : v.isUnd = false) : u.apart v = true := by
 simp only [AVal.apart, hv, Bool.not_false, Bool.true_and]
 exact names_of_pure u h
@[go_sem] theorem ZsJ {kd : IntKind} {n : Int} {v : AVal} : (AVal.int kd n).apart v = !v.isUnd := by simp [AVal.apart, AVal.names]
@[go_sem] theorem Zri {b : Bool} {v : AVal} : (AVal.bool b).apart v = !v.isUnd := by simp [AVal.apart, AVal.names]
@[go_sem] theorem ZsK {b : ByteArray} {v : AVal} : (AVal.str b).apart v = !v.isUnd := by simp [AVal.apart, AVal.names]
@[go_sem] theorem Zrj {m : Nat} {xs : List AVal} {v : AVal} : (AVal.list m xs).apart v = !v.isUnd := by simp [AVal.apart, AVal.names]
@[go_sem] theorem Zrk {xs : List AVal} {v : AVal} : (AVal.fptr xs).apart v = !v.isUnd := by simp [AVal.apart, AVal.names]
@[go_sem] theorem Zrl {v : AVal} : AVal.nils.apart v = !v.isUnd := by simp [AVal.apart, AVal.names]

theorem Zgh {m : Nat} {v : AVal} (h : v.pure = true) : Zab (m + 1) σ v = some (v, σ) := by simp only [Zab, h, if_true]
@[go_sem] theorem ZqK {v : AVal} (h : v.pure = true) : Zab Zh σ v = some (v, σ) := Zgh (m := 63) h
theorem deepL_pure {m : Nat} : ∀ {cs : List AVal}, AVal.pures cs = true → Zan (Zab (m + 1)) σ cs = some (cs, σ)
 | [], _ => rfl
 | x :: xs, h => by
  simp only [AVal.pures, AVal.namesL, Bool.and_eq_true] at h
  simp only [Zan, Zgh h.1, deepL_pure h.2]
@[go_sem] theorem ZqL {cs : List AVal} (h : AVal.pures cs = true) : Zan (Zab Zh) σ cs = some (cs, σ) := deepL_pure (m := 63) h
theorem deepL_append {f : Sto → AVal → Option (AVal × Sto)} : ∀ {σ : Sto} {xs ys : List AVal}, Zan f σ (xs ++ ys) = (match Zan f σ xs with
  | some (xs', σ1) => (match Zan f σ1 ys with
   | some (ys', σ2) => some (xs' ++ ys', σ2)
   | none => none)
  | none => none)
 | σ, [], ys => by
  simp only [List.nil_append, Zan]
  cases Zan f σ ys <;> rfl
 | σ, x :: xs, ys => by
  simp only [List.cons_append, Zan]
  cases f σ x with
  | none => rfl
  | some p =>
   obtain ⟨x', σ1⟩ := p
   simp only [deepL_append (σ := σ1) (xs := xs) (ys := ys)]
   cases Zan f σ1 xs with
   | none => rfl
   | some p =>
    obtain ⟨xs', σ2⟩ := p
    simp only
    cases Zan f σ2 ys <;> rfl

end
end Go.Abs
