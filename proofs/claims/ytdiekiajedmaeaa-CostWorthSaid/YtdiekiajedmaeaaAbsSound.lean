/- The abstract machine is sound. -/
import Derived.Test.YtdiekiajedmaeaaJAbsOps7
import Derived.Test.YtdiekiajedmaeaaAbsIn
import Derived.StillTail
set_option linter.all false
namespace Go.Abs
open Go
variable [Inhabited Glob] [Lps]

def AOp.strip : AOp → AOp
 | .call _ f args => .call true f args
 | .callv _ x args => .callv true x args
 | .flist k l zero parts => .bslice k l zero parts
 | .appendF k b s x => .append k b s x
 | .allocn z _ _ => .alloc z
 | .mkslF k b z l c => .mkslice k b z l c
 | a => a
theorem Zgj {op : AOp} (h : op.isCall = false) : op.strip = ZoB op := by
 cases op <;> first | rfl | simp [AOp.isCall] at h
def AOper.strip (o : AOper) : AOper := { o with op := o.op.strip }

def ACode.isGhost : ACode → Bool
 | .ghost _ => true
 | _ => false

def ACode.strip : ACode → ACode
 | .skip => .skip
 | .region d ops => .region d (ops.map AOper.strip)
 | .regionG xs => .region false ((xs.filterMap GOp.oper?).map AOper.strip)
 | .regionD _ ops => .region true (ops.map AOper.strip)
 | .regionA _ _ ops => .region true (ops.map AOper.strip)
 | .seq a b => if a.isGhost then b.strip else if b.isGhost then a.strip else .seq a.strip b.strip
 | .cond c a b => .cond c a.strip b.strip
 | .block id b => .block id b.strip
 | .loop b => .loop b.strip
 | .exit id => .exit id
 | .ret => .ret
 | .trunc b => b.strip
 | .scope b => .scope b.strip
 | .ghost g => .ghost g
 | .rangeF x ps b => .rangeF x ps b.strip

def AOper.isMv (o : AOper) : Bool := match o.op, o.guard with
 | .mv _, none => true
 | _, _ => false
def Zjb : List AOper → Bool
 | [⟨some t, .alloc _, none, _, _⟩, ⟨none, .store _ (.tmp t') (.tmp _), none, _, _⟩] => t == t'
 | _ => false
def Zgk (l : List AOper) : Bool := l.all AOper.isMv || ((l.take (l.length - 2)).all AOper.isMv && Zjb (l.drop (l.length - 2)))
def ACode.headMv : ACode → Bool
 | .seq (.region false aos) b => !b.isGhost && Zgk aos
 | _ => false

def ACode.okR (r : Bool) : ACode → Bool
 | .seq a b => a.okR r && b.okR r
 | .cond _ a b => a.okR r && b.okR r
 | .block _ b => b.okR r
 | .loop b => b.okR r
 | .trunc b => b.okR r
 | .scope b => b.okR r
 | .rangeF _ _ b => !r && b.headMv && b.okR true
 | _ => true

def Zct (P : Program) (ops : Array Oper) (o : Oper) : Option AOper :=
 some { dst := o.dst, op := (cOp P o).getD .unsup, guard := o.guard.map fun (j, want) => ((ops[j]?).bind (·.dst), want), after := [], reads := [] }

def ZqM : Operand → Option Nat
 | .tmp t => some t
 | _ => none

def Zip (P : Program) (ops : Array Oper) (o : Oper) : Option AOper :=
 (Zct P ops o).map fun a => { a with after := (o.after.toList.filter (Region.binds .any)).map (·.on), reads := o.op.operands.toList.filterMap ZqM }

def ZbV (P : Program) : Code → Option (List AOper)
 | .skip => some []
 | .region _ ops false =>
  match ops.toList.mapM (Zct P ops) with
  | some aos => if aos.all AOper.isMv then some aos else none
  | none => none
 | .seq (.region _ ops false) (.region _ ops' false) =>
  match ops.toList.mapM (Zct P ops), ops'.toList.mapM (Zct P ops') with
  | some a1, some a2 => if a1.all AOper.isMv && Zjb a2 then some (a1 ++ a2) else none
  | _, _ => none
 | _ => none

def ZO (P : Program) : Code → Option ACode
 | .skip => some .skip
 | .region _ ops false => (ops.toList.mapM (Zct P ops)).map (.region false)
 | .region _ ops true => (ops.toList.mapM (Zip P ops)).map (.region true)
 | .seq a b =>
  match ZO P a, ZO P b with
  | some a, some b => some (.seq a b)
  | _, _ => none
 | .cond c a b =>
  match ZR c, ZO P a, ZO P b with
  | some c, some a, some b => some (.cond c a b)
  | _, _, _ => none
 | .block id b => (ZO P b).map (.block id)
 | .loop b => (ZO P b).map .loop
 | .exit id => some (.exit id)
 | .ret => some .ret
 | .scope b => (ZO P b).map .scope
 | .label _ => some .skip
 | .rangeFunc g ps as b =>
  match ZR g, ZbV P as, ZO P b with
  | some x, some aos, some b => some (.rangeF x ps.toList (.seq (.region false aos) b))
  | _, _, _ => none
 | _ => none

def Zks (P : Program) : ResultVar → Option ARes
 | .tmp t => some (.tmp t)
 | .cell a t =>
  match ZdX P t, Z1 P t with
  | some ag, some n => some (.cell a ag n)
  | _, _ => none

def ZtP (P : Program) (b : ACode) (as c : Code) : Prop :=
 ∃ aos b', b = .seq (.region false aos) b' ∧ ZbV P as = some (aos.map AOper.strip) ∧ ZO P c = some b'.strip ∧ b'.plan = true ∧ b'.okR true = true ∧ Zgk aos = true
def Zl4 (P : Program) : Prop := ∀ b as c, glp b as c ↔ ZtP P b as c

def Zo (P : Program) (f : FuncId) (af : AFunc) : Prop :=
 ∃ fn code, P.funcs[f]? = some fn ∧ fn.body = some code ∧ (fn.name == "runtime.NumGoroutine") = false ∧ fn.ntmps = af.ntmps ∧ ZO P code = some af.code.strip ∧ (af.code.plan = true ∧ af.code.okR false = true) ∧ fn.results.toList.mapM (Zks P) = some af.results

section
variable {P : Program} {bs : Nat} {rd : Option Nat}

def ZK (F : Frz) (L : Lay) (args : List AVal) (cargs : Array Value) : Prop := cargs.size = args.length ∧ ∀ (i : Nat) c, args[i]? = some c → VRel F L c (cargs.getD i undef)

def Zok (P : Program) (cw : Zz) : Prop := ∀ {f : FuncId} {args : List AVal} {lv : List Nat} {σ : Sto} {Q : Zs}, cw false f args lv σ Q → ZeJ (.func f) = true → ∀ {F : Frz} {L : Lay} {w : World} {cargs : Array Value},
 ZK F L args cargs → Inv F L σ w → ZbN L σ → ZaH lv σ → (∃ fn, P.funcs[f]? = some fn ∧ fn.body.isSome ∧ (fn.name == "runtime.NumGoroutine") = false) ∧
 Calls P f cargs w fun e w' => ∃ v cv σ' F' L', e = .returned cv ∧ Q v σ' ∧ VRel F' L' v cv ∧ Inv F' L' σ' w' ∧ ZbN L' σ' ∧ ZaH lv σ' ∧ Adv F L w F' L' w'

def ZcM (R : Loop) (cargs : Array Value) : Array Value := (R.params.zip cargs).foldl (fun tmps (t, a) => tmps.setIfInBounds t a) R.tmps

def Zla (P : Program) (cw : Zz) : Prop := ∀ {o : Nat} {args : List AVal} {lv : List Nat} {σ : Sto} {Q : Zs}, cw false Zag (.yld o :: args) lv σ Q → ∀ {F : Frz} {L : Lay} {w : World} {cargs : Array Value} {r : Nat},
 ZK F L args cargs → VRel F L (.yld o) (.func (.yield r) #[] #[]) → Inv F L σ w → ZbN L σ → ZaH lv σ → ∃ R, w.heap[r]? = some (.loop R) ∧ cargs.size = R.params.size ∧
 ∀ rd, RoundIn (Fr rd) 0 P r R.fn (ZcM R cargs) R.assign R.body w fun e w' => ∃ v cv σ' F' L', e = .returned cv ∧ Q v σ' ∧ VRel F' L' v cv ∧ Inv F' L' σ' w' ∧ ZbN L' σ' ∧ ZaH lv σ' ∧ Adv F L w F' L' w'

structure CallsOk (P : Program) (cw : Zz) : Prop where
 calls : Zok P cw
 yields : Zla P cw

def Z7 (P : Program) (cw : Zz) : Prop := ∀ {f : FuncId} {args : List AVal} {lv : List Nat} {σ : Sto} {Q : Zs}, cw true f args lv σ Q → ∃ v, Q v σ ∧ (∃ fn, P.funcs[f]? = some fn ∧ fn.body.isSome ∧ (fn.name == "runtime.NumGoroutine") = false) ∧
 ∀ {F : Frz} {L : Lay} {σs : Sto} {w : World} {cargs : Array Value}, ZK F L args cargs → Inv F L σs w → (∀ i, i < σ.length → σs[i]? = σ[i]?) →
 Calls P f cargs w fun e w' => ∃ cv F', e = .returned cv ∧ VRel F' L v cv ∧ Inv F' L σs w' ∧ Adv F L w F' L w'

theorem Inv.notOwns {F : Frz} {L : Lay} {σ : Sto} {w : World} (hI : Inv F L σ w) {D : Nat} {x : Option (List Deferred)} (h : w.heap[D]? = some (.deferred x)) : ¬ Zap L D := by
 rintro ⟨o, loc, gen, h1, h2⟩
 obtain ⟨ob, _, hk⟩ := hI.obj o loc gen h1
 cases ob with
 | cells nl cs =>
  obtain ⟨_, _, h3⟩ := hk
  cases loc with
  | blk b top => obtain ⟨_, c, e, hw, _⟩ := h3; simp [Loc.block?] at h2; subst h2; rw [h] at hw; simp at hw
  | nil => simp [Loc.block?] at h2
  | mp r => exact h3
 | map ks vs => obtain ⟨r, es, cl, rfl, hw, _⟩ := hk; simp [Loc.block?] at h2; subst h2; rw [h] at hw; simp at hw
 | loop ps b e st => obtain ⟨r, R, rfl, hw, _⟩ := hk; simp [Loc.block?] at h2; subst h2; rw [h] at hw; simp at hw
 | dead => exact hk

theorem Zau.adv {F F' : Frz} {L L' : Lay} {σ : Sto} {w w' : World} {ds : List Deferred} (h : Zau bs w ds) (hI : Inv F L σ w) (hA : Adv F L w F' L' w') : Zau bs w' ds :=
 h.keep hA.size fun D hD => (hA.keep D (Array.getElem?_eq_some_iff.1 hD).1 (hI.notOwns hD)).trans hD

theorem Act.put_defers (a : Act) (d : Option Tmp) (v : Value) : (a.put d v).defers = a.defers := by cases d <;> rfl

structure CRel (bs : Nat) (F : Frz) (L : Lay) (lv : List Nat) (e : Env) (σ : Sto) (a : Act) (w : World) : Prop where
 env : ZI F L e a.tmps
 defers : Zau bs w a.defers
 inv : Inv F L σ w
 full : ZbN L σ
 lv : ZaH lv σ

def Zax : AExit → Exit → Prop
 | .normal, .normal => True
 | .exit i, .exit j => i = j
 | .ret, .ret => True
 | _, _ => False

def Zlb (bs : Nat) (F : Frz) (L : Lay) (w : World) (lv : List Nat) (Q : Zg) : Exit → Act → World → Prop := fun x a' w' =>
 ∃ x' e' σ' F' L', Zax x' x ∧ Q x' e' σ' ∧ CRel bs F' L' lv e' σ' a' w' ∧ Adv F L w F' L' w'

theorem ZaQ (a : Act) (v : Value) : a.eval (.const v) = v := rfl

theorem Zba {a : Act} {o : Oper} {c : Call} (ho : o.op = .call c) {x : Operand} (hx : c.callee = .value x) {f : FuncId} {fs cs : Array Value} (hv : a.eval x = .func (.func f) fs cs) {w : World}
  (hfn : ∃ fn, P.funcs[f]? = some fn ∧ fn.body.isSome ∧ (fn.name == "runtime.NumGoroutine") = false) : (execOp a.eval o).run P w = .ok (.enter f (fs ++ c.args.map a.eval ++ cs)) w := by
 obtain ⟨fn, h1, h2, h3⟩ := hfn
 have h2' : fn.body.isNone = false := by cases hb : fn.body <;> simp [hb] at h2 ⊢
 simp only [execOp, ho, Sem.run_bind, resolve, hx, hv, Deferred.ofValue, Sem.run_pure, Result.andThen_ok, invoke, callFunc, run_program, h1, h3, h2', Bool.false_eq_true, if_false]

theorem ZfI {F : Frz} {L : Lay} {e : Env} {a : Act} (h : ZI F L e a.tmps) (hg : Ziv F) {xs : Array Operand} {ys : List Opd} (hx : Zdq xs = some ys) : ZK F L (ys.map (ev e)) (xs.map a.eval) :=
 Za2 hx fun x _ => h.reads hg x

theorem ZK.append {F : Frz} {L : Lay} {xs ys : List AVal} {xa ya : Array Value} (h : ZK F L xs xa) (k : ZK F L ys ya) : ZK F L (xs ++ ys) (xa ++ ya) := by
 refine ⟨by simp [h.1, k.1], fun i c hc => ?_⟩
 rcases Nat.lt_or_ge i xs.length with hi | hi
 ·rw [List.getElem?_append_left hi] at hc
  have := h.2 i c hc
  rw [Array.getD_eq_getD_getElem?, Array.getElem?_append_left (by rw [h.1]; exact hi), ← Array.getD_eq_getD_getElem?]; exact this
 ·rw [List.getElem?_append_right hi] at hc
  have := k.2 _ c hc
  rw [Array.getD_eq_getD_getElem?, Array.getElem?_append_right (by rw [h.1]; exact hi), h.1, ← Array.getD_eq_getD_getElem?]; exact this

theorem Zgl {o : Oper} {p : Bool} {f : FuncId} {args : List Opd} (h : cOp P o = some (AOp.call true f args)) (_ : p = p) : ∃ c, o.op = .call c ∧ c.callee = .value (.func f) ∧ Zdq c.args = some args ∧ ZeJ (.func f) = true := by
 cases hop : o.op <;> simp only [cOp, hop, reduceCtorEq] at h
 case call c =>
  split at h
  ·unfold ZcT at h
   repeat' split at h
   all_goals first | (simp at h; done) | skip
  ·rename_i args' f' ha hb
   split at h
   case isFalse => simp at h
   rename_i hfy
   injection h with h; injection h with _ e1 e2
   subst e1; subst e2
   exact ⟨c, rfl, hb, ha, hfy⟩
  ·simp at h
  ·simp at h
 case makeMap t r => cases r <;> simp at h
 all_goals
  exfalso
  try unfold cEq at h
  repeat' split at h
  all_goals first | (simp at h; done) | (simp only [Option.map_eq_some_iff] at h; obtain ⟨_, _, h⟩ := h; exact absurd h (by simp))

theorem Zfo {o : Oper} {x : Opd} {args : List Opd} (h : cOp P o = some (AOp.callv true x args)) : ∃ c y, o.op = .call c ∧ c.callee = .value y ∧ ZR y = some x ∧ Zdq c.args = some args := by
 cases hop : o.op <;> simp only [cOp, hop, reduceCtorEq] at h
 case call c =>
  split at h
  ·unfold ZcT at h
   repeat' split at h
   all_goals first | (simp at h; done) | (simp only [Option.map_eq_some_iff] at h; obtain ⟨_, _, h⟩ := h; exact absurd h (by simp))
  ·split at h <;> simp at h
  ·rename_i args' y hny ha hb
   simp only [Option.map_eq_some_iff] at h
   obtain ⟨x', hx, h⟩ := h
   injection h with _ e1 e2
   subst e1; subst e2
   exact ⟨c, y, rfl, hb, hx, ha⟩
  ·simp at h
 case makeMap t r => cases r <;> simp at h
 all_goals
  exfalso
  try unfold cEq at h
  repeat' split at h
  all_goals first | (simp at h; done) | (simp only [Option.map_eq_some_iff] at h; obtain ⟨_, _, h⟩ := h; exact absurd h (by simp))

theorem ZpF {F : Frz} {L : Lay} {e : Env} {a : Act} (h : ZI F L e a.tmps) {t : Option Nat} {b : Bool} (ht : t.bind (e[·]?) = some (.bool b)) : t.bind (a.tmps[·]?) = some (.bool b) := by
 cases t with
 | none => simp at ht
 | some t =>
  simp only [Option.bind_some] at ht ⊢
  have := h.2 t _ ht
  have hlt : t < a.tmps.size := by rw [← h.1]; exact (List.getElem?_eq_some_iff.1 ht).1
  rw [Array.getD_eq_getD_getElem?, Array.getElem?_eq_getElem hlt] at this
  simp only [Option.getD_some] at this
  rw [Array.getElem?_eq_getElem hlt]
  generalize a.tmps[t] = q at this
  cases this; rfl

theorem Zb0 {F : Frz} {L : Lay} : VRel F L ZaY undef := .tup rfl fun i c h => by simp at h

theorem Zjc {F : Frz} {L : Lay} {e : Env} {a : Act} (h : ZI F L e a.tmps) {t : Option Nat} {vs : List AVal} (ht : t.bind (e[·]?) = some (.tup vs)) : ∃ cs, t.bind (a.tmps[·]?) = some (.tuple cs) := by
 cases t with
 | none => simp at ht
 | some t =>
  simp only [Option.bind_some] at ht ⊢
  have := h.2 t _ ht
  have hlt : t < a.tmps.size := by rw [← h.1]; exact (List.getElem?_eq_some_iff.1 ht).1
  rw [Array.getD_eq_getD_getElem?, Array.getElem?_eq_getElem hlt] at this
  simp only [Option.getD_some] at this
  rw [Array.getElem?_eq_getElem hlt]
  generalize a.tmps[t] = q at this
  cases this
  exact ⟨_, rfl⟩

theorem ZaZ {F : Frz} {L : Lay} {e : Env} {a : Act} (h : ZI F L e a.tmps) {ops : Array Oper} {o : Oper} {ao : AOper} (hg : ao.guard = o.guard.map fun (j, want) => ((ops[j]?).bind (·.dst), want)) {b : Bool}
  (hw : ZN ao e = some b) : Region.wanted o (yielded ops a.tmps) = b := by
 unfold ZN at hw
 unfold Region.wanted
 cases hgo : o.guard with
 | none => rw [hgo] at hg; simp at hg; rw [hg] at hw; simp at hw; simp [hw]
 | some jw =>
  obtain ⟨j, want⟩ := jw
  rw [hgo] at hg
  simp only [Option.map_some] at hg
  rw [hg] at hw
  simp only at hw
  split at hw
  ·rename_i b' hb
   have := ZpF h hb
   simp only [yielded, this]
   obtain rfl := Option.some.inj hw
   cases b' <;> cases want <;> rfl
  ·rename_i vs hb
   obtain ⟨cs, this⟩ := Zjc h hb
   simp only [yielded, this]
   obtain rfl := Option.some.inj hw
   rfl
  ·simp at hw

theorem Zdx {o : Oper} {op : AOp} (h : (cOp P o).getD .unsup = op.strip) (hn : op ≠ .unsup) : cOp P o = some op.strip := by
 cases hc : cOp P o with
 | some x => rw [hc] at h; simp at h; rw [h]
 | none =>
  rw [hc] at h
  cases op <;> simp [AOp.strip] at h hn

theorem Zgm {cw : Zz} {lv : List Nat} {ao : AOper} {e : Env} {σ : Sto} {K : Env → Sto → Prop} (h : ZZ cw lv ao e σ K) : ao.op ≠ .unsup := by
 intro hu
 simp [ZZ, hu, Zc] at h

theorem Zar {o : Oper} {x : AOp} (h : cOp P o = some x) : ∀ c, o.op ≠ .defer c := fun c hd => by simp [cOp, hd] at h

theorem Zhy {a : Act} {o : Oper} {c : Call} (ho : o.op = .call c) {x : Operand} (hx : c.callee = .value x) {r : Nat} (hv : a.eval x = .func (.yield r) #[] #[]) {w : World} {R : Loop} (hR : w.heap[r]? = some (.loop R))
  (hs : (c.args.map a.eval).size = R.params.size) : (execOp a.eval o).run P w = .ok (.round r R.fn (ZcM R (c.args.map a.eval)) R.assign R.body) w := by
 have := run_yield (P := P) hR hs
 simp only [execOp, ho, Sem.run_bind, resolve, hx, hv, Deferred.ofValue, Sem.run_pure, Result.andThen_ok, invoke, Array.empty_append, Array.append_empty]
 exact this

theorem Zgn {cw : Zz} (hC : CallsOk P cw) (hP : Z7 P cw) {lv : List Nat} {ao : AOper} {o : Oper} (hc : cOp P o = some ao.op.strip) (hdst : ao.dst = o.dst) {e : Env} {σ : Sto} {K : Env → Sto → Prop}
  (h : ZZ cw lv ao e σ K) {F : Frz} {L : Lay} {a : Act} {w : World} (hR : CRel bs F L lv e σ a w) {next : Act → World → Prop} {Q : Exit → Act → World → Prop}
  (hK : ∀ e' σ' F' L' a' w', K e' σ' → CRel bs F' L' lv e' σ' a' w' → Adv F L w F' L' w' → next a' w') : o.wpIn (Fr rd) 0 P a w next Q := by
 have hput : ∀ {F' : Frz} {L' : Lay} {v : AVal} {cv : Value} {σ' : Sto} {w' : World}, Adv F L w F' L' w' → VRel F' L' v cv → Inv F' L' σ' w' → ZbN L' σ' → ZaH lv σ' → CRel bs F' L' lv (put e ao.dst v) σ' (a.put o.dst cv) w' := by
  intro F' L' v cv σ' w' hA hv hI hF hl
  refine ⟨?_, ?_, hI, hF, hl⟩
  ·rw [hdst]; exact (hR.env.mono hA.frz hA.evo).put hv
  ·rw [Act.put_defers]; exact hR.defers.adv hR.inv hA
 unfold ZZ at h
 split at h
 ·rename_i p f args hop
  rw [hop] at hc
  obtain ⟨c, ho, hcal, hargs, hfy⟩ := Zgl (P := P) (p := p) hc rfl
  have hnd : ∀ c, o.op ≠ .defer c := fun c h => by rw [ho] at h; cases h
  have har := ZfI hR.env hR.inv.gl hargs
  have hev : a.eval (.func f) = .func (.func f) #[] #[] := rfl
  cases p with
  | false =>
   obtain ⟨hfn, hcalls⟩ := hC.calls h hfy har hR.inv hR.full hR.lv
   have hex := Zba ho hcal hev hfn (w := w)
   have e1 : (#[] : Array Value) ++ c.args.map a.eval ++ #[] = c.args.map a.eval := by simp
   rw [e1] at hex
   exact ZaK hnd hex (hcalls.mono fun e w' ⟨v, cv, σ', F', L', he, hq, hv, hI, hF, hl, hA⟩ => ⟨cv, he, hK _ _ _ _ _ _ hq (hput hA hv hI hF hl) hA⟩)
  | true =>
   obtain ⟨v, hq, hfn, hcalls⟩ := hP h
   have hex := Zba ho hcal hev hfn (w := w)
   have e1 : (#[] : Array Value) ++ c.args.map a.eval ++ #[] = c.args.map a.eval := by simp
   rw [e1] at hex
   exact ZaK hnd hex ((hcalls har hR.inv fun _ _ => rfl).mono fun e w' ⟨cv, F', he, hv, hI, hA⟩ => ⟨cv, he, hK _ _ _ _ _ _ hq (hput hA hv hI hR.full hR.lv) hA⟩)
 ·rename_i p x args hop
  rw [hop] at hc
  obtain ⟨c, y, ho, hcal, hy, hargs⟩ := Zfo (P := P) hc
  have hnd : ∀ c, o.op ≠ .defer c := fun c h => by rw [ho] at h; cases h
  have har := ZfI hR.env hR.inv.gl hargs
  have hyr := hR.env.reads hR.inv.gl y x hy
  split at h
  case h_3 => exact h.elim
  case h_2 =>
   rename_i l hx
   rw [hx] at hyr
   obtain ⟨r, hev⟩ : ∃ r, a.eval y = .func (.yield r) #[] #[] := by
    generalize a.eval y = q at hyr
    cases hyr with
    | yld h0 h1 h => exact h1
   rw [hev] at hyr
   obtain ⟨R, hw, hsz, hround⟩ := hC.yields h.2 har hyr hR.inv hR.full hR.lv
   exact ZhF hnd (Zhy ho hcal hev hw hsz) fun rd => (hround rd).mono fun e w' ⟨v, cv, σ', F', L', he, hq, hv, hI, hF, hl, hA⟩ => ⟨cv, he, hK _ _ _ _ _ _ hq (hput hA hv hI hF hl) hA⟩
  rename_i f first captured hx
  rw [hx] at hyr
  obtain ⟨fa, ca, hev, h1, h2, hfy⟩ : ∃ fa ca, a.eval y = .func (.func f) fa ca ∧ ZK F L first fa ∧ ZK F L captured ca ∧ ZeJ (.func f) = true := by
   generalize a.eval y = q at hyr
   cases hyr with
   | clo hfl hcl hf hcc hy => exact ⟨_, _, rfl, ⟨hfl, hf⟩, ⟨hcl, hcc⟩, hy⟩
  have har' := (h1.append har).append h2
  cases p with
  | false =>
   obtain ⟨hfn, hcalls⟩ := hC.calls h hfy har' hR.inv hR.full hR.lv
   have hex := Zba ho hcal hev hfn (w := w)
   exact ZaK hnd hex (hcalls.mono fun e w' ⟨v, cv, σ', F', L', he, hq, hv, hI, hF, hl, hA⟩ => ⟨cv, he, hK _ _ _ _ _ _ hq (hput hA hv hI hF hl) hA⟩)
  | true =>
   obtain ⟨v, hq, hfn, hcalls⟩ := hP h
   have hex := Zba ho hcal hev hfn (w := w)
   exact ZaK hnd hex ((hcalls har' hR.inv fun _ _ => rfl).mono fun e w' ⟨cv, F', he, hv, hI, hA⟩ => ⟨cv, he, hK _ _ _ _ _ _ hq (hput hA hv hI hR.full hR.lv) hA⟩)
 ·rename_i op hn1 hn2
  split at h
  case h_2 => exact h.elim
  rename_i v σ' hs
  have hnc : ao.op.isCall = false := by
   cases hao : ao.op <;> first | rfl | exact absurd hao (hn1 _ _ _) | exact absurd hao (hn2 _ _ _)
  rw [Zgj hnc] at hc
  obtain ⟨w', F', L', hres, hI, hA, hids⟩ := Ziw hc hnc hs hR.inv (ZaQ a) (fun x _ => hR.env.reads hR.inv.gl x)
  have hF := hids.full hR.full
  have hl := Zf7 hs hR.lv
  have hnd : ∀ c, o.op ≠ .defer c := Zar hc
  rcases hres with ⟨cv, hrun, hv⟩ | ⟨hrun, rfl⟩
  ·exact Zbp hnd hrun (hK _ _ _ _ _ _ h (hput hA hv hI hF hl) hA)
  ·exact ZgC hnd hrun (hK _ _ _ _ _ _ h (hput hA .und hI hF hl) hA)

theorem ZdP {cw : Zz} (hC : CallsOk P cw) (hP : Z7 P cw) {lv : List Nat} {ops : Array Oper} {Q : Exit → Act → World → Prop} : ∀ (aos : List AOper) (os : List Oper), os.mapM (Zct P ops) = some (aos.map AOper.strip) →
  ∀ {e : Env} {σ : Sto} {K : Env → Sto → Prop}, Zu cw lv aos e σ K → ∀ {F : Frz} {L : Lay} {a : Act} {w : World}, CRel bs F L lv e σ a w →
  (∀ e' σ' F' L' a' w', K e' σ' → CRel bs F' L' lv e' σ' a' w' → Adv F L w F' L' w' → Q .normal a' w') → wpListIn (Fr rd) 0 P ops Q os a w
 | [], [], _, e, σ, K, h, F, L, a, w, hR, hK => hK _ _ _ _ _ _ h hR (Adv.refl F L w)
 | [], o :: os, hm, e, σ, K, h, F, L, a, w, hR, hK => by
  have := (ZC _ hm).1; simp at this
 | ao :: aos, [], hm, e, σ, K, h, F, L, a, w, hR, hK => by simp at hm
 | ao :: aos, o :: os, hm, e, σ, K, h, F, L, a, w, hR, hK => by
  simp only [List.mapM_cons, List.map_cons, Option.pure_def, Option.bind_eq_bind, Option.bind_eq_some_iff] at hm
  obtain ⟨x, hx, xs, hxs, heq⟩ := hm
  obtain ⟨rfl, rfl⟩ := List.cons.inj (Option.some.inj heq)
  simp only [Zct, Option.some.injEq] at hx
  have e1 : (cOp P o).getD .unsup = ao.op.strip := congrArg AOper.op hx
  have e2 : ao.dst = o.dst := (congrArg AOper.dst hx).symm
  have e3 : ao.guard = o.guard.map fun (j, want) => ((ops[j]?).bind (·.dst), want) := (congrArg AOper.guard hx).symm
  simp only [Zu] at h
  unfold wpListIn
  split at h
  ·rename_i hw
   rw [ZaZ hR.env e3 hw, if_pos rfl]
   refine (Zgn hC hP (Zdx e1 (Zgm h)) e2 h hR fun e' σ' F' L' a' w' hq hR' hA => ?_)
   exact ZdP hC hP aos os hxs hq hR' fun e'' σ'' F'' L'' a'' w'' hk hR'' hA' => hK _ _ _ _ _ _ hk hR'' (hA.trans hA')
  ·rename_i hw
   rw [ZaZ hR.env e3 hw, if_neg (by simp)]
   refine ⟨fun _ _ => trivial, ZdP hC hP aos os hxs h ⟨by rw [e2]; exact hR.env.put Zb0, by rw [Act.put_defers]; exact hR.defers, hR.inv, hR.full, hR.lv⟩ hK⟩
  ·exact h.elim

end
end Go.Abs
