/- The abstract machine is sound: regions that run in any order. -/
import Derived.Test.YtaiibojjndeipaaAbsCode
import Derived.Orders
set_option linter.all false
namespace Go.Abs
open Go

def StepOf (cw : CallW) (lv : List Nat) (op : AOp) (e : Env) (σ : Sto) (v : AVal) (σ' : Sto) : Prop :=
  match op with
  | .call p f args => cw p f (args.map (ev e)) lv σ fun v' σ'' => v' = v ∧ σ'' = σ'
  | .callv p x args =>
    match ev e x with
    | .clo (.func f) first captured => cw p f (first ++ args.map (ev e) ++ captured) lv σ fun v' σ'' => v' = v ∧ σ'' = σ'
    | _ => False
  | op => stepOp lv op e σ = some (v, σ')

theorem stepOf_of {cw : CallW} (hD : Det cw) {lv : List Nat} {o : AOper} {e : Env} {σ : Sto} {K : Env → Sto → Prop} (h : wpOper cw lv o e σ K) : ∃ v σ', StepOf cw lv o.op e σ v σ' ∧ K (put e o.dst v) σ' := by
  unfold wpOper at h
  split at h
  · rename_i p f args hop
    obtain ⟨v, σ', h1, h2⟩ := hD _ _ _ _ _ _ h
    exact ⟨v, σ', by rw [hop]; exact h2 ⟨rfl, rfl⟩, h1⟩
  · rename_i p x args hop
    split at h
    · rename_i f first captured hx
      obtain ⟨v, σ', h1, h2⟩ := hD _ _ _ _ _ _ h
      exact ⟨v, σ', by rw [hop]; simp only [StepOf, hx]; exact h2 ⟨rfl, rfl⟩, h1⟩
    · exact h.elim
  · rename_i op h1 h2
    split at h
    · rename_i v σ' hs
      refine ⟨v, σ', ?_, h⟩
      unfold StepOf
      split
      · rename_i hop; exact absurd hop (h1 _ _ _)
      · rename_i hop; exact absurd hop (h2 _ _ _)
      · exact hs
    · exact h.elim

theorem stepOf_sup {cw : CallW} {lv : List Nat} {op : AOp} {e : Env} {σ σ' : Sto} {v : AVal} (h : StepOf cw lv op e σ v σ') : op ≠ .unsup := by
  intro hu; subst hu; simp [StepOf, stepOp] at h

def Step1 (cw : CallW) (lv : List Nat) (ao : AOper) (e : Env) (σ : Sto) (e' : Env) (σ' : Sto) : Prop :=
  (wantedA ao e = some false ∧ e' = put e ao.dst skipped ∧ σ' = σ) ∨ (wantedA ao e = some true ∧ ∃ v, e' = put e ao.dst v ∧ StepOf cw lv ao.op e σ v σ')

theorem trace_of {cw : CallW} (hD : Det cw) {lv : List Nat} : ∀ (aos : List AOper) {e : Env} {σ : Sto} {K : Env → Sto → Prop}, wpOpsA cw lv aos e σ K →
    ∃ (es : Nat → Env) (ss : Nat → Sto), es 0 = e ∧ ss 0 = σ ∧ (∀ (i : Nat) (ao : AOper), aos[i]? = some ao → Step1 cw lv ao (es i) (ss i) (es (i + 1)) (ss (i + 1))) ∧ K (es aos.length) (ss aos.length)
  | [], e, σ, K, h => ⟨fun _ => e, fun _ => σ, rfl, rfl, fun i ao h => by simp at h, h⟩
  | o :: os, e, σ, K, h => by
    simp only [wpOpsA] at h
    have go : ∀ (e1 : Env) (σ1 : Sto), Step1 cw lv o e σ e1 σ1 → wpOpsA cw lv os e1 σ1 K → (∃ (es : Nat → Env) (ss : Nat → Sto), es 0 = e ∧ ss 0 = σ ∧ (∀ (i : Nat) (ao : AOper), (o :: os)[i]? = some ao → Step1 cw lv ao (es i) (ss i) (es (i + 1)) (ss (i + 1))) ∧ K (es (o :: os).length) (ss (o :: os).length)) := fun e1 σ1 h1 h2 => by
      obtain ⟨es, ss, g1, g2, g3, g4⟩ := trace_of hD os h2
      refine ⟨fun i => match i with | 0 => e | i + 1 => es i, fun i => match i with | 0 => σ | i + 1 => ss i, rfl, rfl, fun i ao hi => ?_, g4⟩
      cases i with
      | zero => simp at hi; subst hi; simp only [g1, g2]; exact h1
      | succ i => exact g3 i ao (by simpa using hi)
    split at h
    · rename_i hw
      obtain ⟨v, σ1, h1, h2⟩ := stepOf_of hD h
      exact go _ _ (.inr ⟨hw, v, rfl, h1⟩) h2
    · rename_i hw
      exact go _ _ (.inl ⟨hw, rfl, rfl⟩) h
    · exact h.elim

theorem reg_step {lv : List Nat} {op : AOp} {e : Env} {σ σ' : Sto} {v : AVal} (hr : op.isReg = true) (hs : stepOp lv op e σ = some (v, σ')) : σ' = σ ∧ stepOp lv op e [] = some (v, []) := by
  cases op <;> simp only [AOp.isReg, reduceCtorEq, Bool.false_eq_true] at hr <;> simp only [stepOp] at hs ⊢
  all_goals (repeat' split at hs)
  all_goals first
    | (simp at hs; done)
    | (simp only [Option.some.injEq, Prod.mk.injEq] at hs; obtain ⟨rfl, rfl⟩ := hs; simp_all; done)
    | (simp only [Option.map_eq_some_iff] at hs; obtain ⟨a, ha, he⟩ := hs; obtain ⟨rfl, rfl⟩ := Prod.mk.inj he; exact ⟨rfl, by simp_all⟩)

section
variable {P : Program}

theorem AOp.strip_notCall {op : AOp} (h1 : ∀ p f args, op ≠ .call p f args) (h2 : ∀ p x args, op ≠ .callv p x args) : op.strip = op ∧ op.isCall = false := by
  cases op <;> first | exact ⟨rfl, rfl⟩ | exact absurd rfl (h1 _ _ _) | exact absurd rfl (h2 _ _ _)

/-- operations that write nothing, wherever they stand -/
theorem q_oper {cw : CallW} (hP : PureOk P cw) {lv : List Nat} {op : AOp} {o : Oper} (hc : cOp P o = some op.strip) (hw : op.isW = false) {e : Env} {σ σ' : Sto} {v : AVal} (h : StepOf cw lv op e σ v σ') :
    ∃ new, σ' = σ ++ new ∧ (op.isReg = true → new = []) ∧ ∀ {F : Frz} {L : Lay} {σs : Sto} {a : Act} {w : World}, Inv F L σs w → (op.isReg = true ∨ Watch L σ new σs) → (∀ x ∈ o.op.operands.toList, Reads F L e a.eval x) →
      ∀ {next : Act → World → Prop} {Q : Exit → Act → World → Prop}, (∀ cv F' L' w', VRel F' L' v cv → Inv F' L' σs w' → Adv F L w F' L' w' → (∀ i, L' i ≠ .un ↔ L i ≠ .un ∨ idsOf σ.length new.length i) → next (a.put o.dst cv) w') → o.wp P a w next Q := by
  unfold StepOf at h
  split at h
  · rename_i p f args
    obtain rfl : p = true := by simpa [AOp.isW] using hw
    obtain ⟨c, ho, hcal, hargs⟩ := cOp_call (P := P) (p := true) hc rfl
    obtain ⟨v', ⟨rfl, rfl⟩, hfn, hcalls⟩ := hP h
    refine ⟨[], by simp, fun _ => rfl, fun {F L σs a w} hI hwt hr next Q hK => ?_⟩
    have har : ArgsRel F L (args.map (ev e)) (c.args.map a.eval) := reads_map hargs fun x hx => hr x (by simp [ho, Op.operands, Call.operands, hcal, hx])
    have hev : a.eval (.func f) = .func (.func f) #[] #[] := rfl
    have hex := execCall ho hcal hev hfn (w := w)
    have e1 : (#[] : Array Value) ++ c.args.map a.eval ++ #[] = c.args.map a.eval := by simp
    rw [e1] at hex
    unfold Oper.wp
    rw [hex, Oper.upon_enter]
    exact (hcalls har hI (hwt.resolve_left (by simp [AOp.isReg])).pre).mono fun e w' ⟨cv, F', he, hv, hI, hA⟩ => by
      subst he
      exact hK _ _ _ _ hv hI hA fun i => ⟨.inl, fun h => h.resolve_right (idsOf_zero _ _)⟩
  · rename_i p x args
    obtain rfl : p = true := by simpa [AOp.isW] using hw
    split at h
    case h_2 => exact h.elim
    rename_i f first captured hx
    obtain ⟨c, y, ho, hcal, hy, hargs⟩ := cOp_callv (P := P) hc
    obtain ⟨v', ⟨rfl, rfl⟩, hfn, hcalls⟩ := hP h
    refine ⟨[], by simp, fun _ => rfl, fun {F L σs a w} hI hwt hr next Q hK => ?_⟩
    have har : ArgsRel F L (args.map (ev e)) (c.args.map a.eval) := reads_map hargs fun x hx => hr x (by simp [ho, Op.operands, Call.operands, hcal, hx])
    have hyr := hr y (by simp [ho, Op.operands, Call.operands, hcal]) x hy
    rw [hx] at hyr
    obtain ⟨fa, ca, hev, h1, h2⟩ : ∃ fa ca, a.eval y = .func (.func f) fa ca ∧ ArgsRel F L first fa ∧ ArgsRel F L captured ca := by
      generalize a.eval y = q at hyr
      cases hyr with
      | clo hfl hcl hf hcc => exact ⟨_, _, rfl, ⟨hfl, hf⟩, ⟨hcl, hcc⟩⟩
    have hex := execCall ho hcal hev hfn (w := w)
    unfold Oper.wp
    rw [hex, Oper.upon_enter]
    exact (hcalls ((h1.append har).append h2) hI (hwt.resolve_left (by simp [AOp.isReg])).pre).mono fun e w' ⟨cv, F', he, hv, hI, hA⟩ => by
      subst he
      exact hK _ _ _ _ hv hI hA fun i => ⟨.inl, fun h => h.resolve_right (idsOf_zero _ _)⟩
  · rename_i h1 h2
    obtain ⟨hst, hnc⟩ := AOp.strip_notCall h1 h2
    rw [hst] at hc
    have hq : op.isQ = true := by
      cases op <;> first | rfl | exact absurd rfl (h1 _ _ _) | exact absurd rfl (h2 _ _ _) | simp [AOp.isW, AOp.isQ] at hw
    by_cases hreg : op.isReg = true
    · obtain ⟨rfl, hs0⟩ := reg_step hreg h
      refine ⟨[], by simp, fun _ => rfl, fun {F L σs a w} hI hwt hr next Q hK => ?_⟩
      obtain ⟨new, he, hqo⟩ := q_step (F := F) hc hq hs0
      obtain rfl : new = [] := by simpa using he.symm
      obtain ⟨cv, w', L', hrun, hv, hI', hA, hid⟩ := hqo hI ⟨fun i hi => by simp at hi, fun i ob hi => by simp at hi⟩ (eval_const a) hr
      unfold Oper.wp
      rw [hrun, Oper.upon_value]
      exact hK _ _ _ _ hv hI' hA fun i => (hid i).trans ⟨fun h => h.imp id fun h => absurd h (idsOf_zero _ _), fun h => h.imp id fun h => absurd h (idsOf_zero _ _)⟩
    · obtain ⟨new, he, _⟩ := q_step (F := ⟨fun _ _ => none, fun _ => none⟩) hc hq h
      refine ⟨new, he, fun h => absurd h hreg, fun {F L σs a w} hI hwt hr next Q hK => ?_⟩
      obtain ⟨new', he', hqo⟩ := q_step (F := F) hc hq h
      obtain rfl : new = new' := List.append_cancel_left (he.symm.trans he')
      obtain ⟨cv, w', L', hrun, hv, hI', hA, hid⟩ := hqo hI (hwt.resolve_left hreg) (eval_const a) hr
      unfold Oper.wp
      rw [hrun, Oper.upon_value]
      exact hK _ _ _ _ hv hI' hA hid

/-- any operation, where all that is there is known -/
theorem w_oper {cw : CallW} (hC : CallsOk P cw) (hP : PureOk P cw) {lv : List Nat} {op : AOp} {o : Oper} (hc : cOp P o = some op.strip) {e : Env} {σ σ' : Sto} {v : AVal} (h : StepOf cw lv op e σ v σ')
    {F : Frz} {L : Lay} {a : Act} {w : World} (hI : Inv F L σ w) (hF : Full L σ) (hl : LvOk lv σ) (hr : ∀ x ∈ o.op.operands.toList, Reads F L e a.eval x)
    {next : Act → World → Prop} {Q : Exit → Act → World → Prop} (hK : ∀ cv F' L' w', VRel F' L' v cv → Inv F' L' σ' w' → Full L' σ' → LvOk lv σ' → Adv F L w F' L' w' → next (a.put o.dst cv) w') : o.wp P a w next Q := by
  unfold StepOf at h
  split at h
  · rename_i p f args
    obtain ⟨c, ho, hcal, hargs⟩ := cOp_call (P := P) (p := true) hc rfl
    have har : ArgsRel F L (args.map (ev e)) (c.args.map a.eval) := reads_map hargs fun x hx => hr x (by simp [ho, Op.operands, Call.operands, hcal, hx])
    have hev : a.eval (.func f) = .func (.func f) #[] #[] := rfl
    have e1 : (#[] : Array Value) ++ c.args.map a.eval ++ #[] = c.args.map a.eval := by simp
    cases p with
    | false =>
      obtain ⟨hfn, hcalls⟩ := hC h har hI hF hl
      have hex := execCall ho hcal hev hfn (w := w)
      rw [e1] at hex
      unfold Oper.wp
      rw [hex, Oper.upon_enter]
      exact hcalls.mono fun e w' ⟨v, cv, σ', F', L', he, hq, hv, hI, hF, hl, hA⟩ => by
        obtain ⟨rfl, rfl⟩ := hq
        subst he
        exact hK _ _ _ _ hv hI hF hl hA
    | true =>
      obtain ⟨v', ⟨rfl, rfl⟩, hfn, hcalls⟩ := hP h
      have hex := execCall ho hcal hev hfn (w := w)
      rw [e1] at hex
      unfold Oper.wp
      rw [hex, Oper.upon_enter]
      exact (hcalls har hI fun _ _ => rfl).mono fun e w' ⟨cv, F', he, hv, hI, hA⟩ => by
        subst he
        exact hK _ _ _ _ hv hI hF hl hA
  · rename_i p x args
    split at h
    case h_2 => exact h.elim
    rename_i f first captured hx
    obtain ⟨c, y, ho, hcal, hy, hargs⟩ := cOp_callv (P := P) hc
    have har : ArgsRel F L (args.map (ev e)) (c.args.map a.eval) := reads_map hargs fun x hx => hr x (by simp [ho, Op.operands, Call.operands, hcal, hx])
    have hyr := hr y (by simp [ho, Op.operands, Call.operands, hcal]) x hy
    rw [hx] at hyr
    obtain ⟨fa, ca, hev, h1, h2⟩ : ∃ fa ca, a.eval y = .func (.func f) fa ca ∧ ArgsRel F L first fa ∧ ArgsRel F L captured ca := by
      generalize a.eval y = q at hyr
      cases hyr with
      | clo hfl hcl hf hcc => exact ⟨_, _, rfl, ⟨hfl, hf⟩, ⟨hcl, hcc⟩⟩
    have har' := (h1.append har).append h2
    cases p with
    | false =>
      obtain ⟨hfn, hcalls⟩ := hC h har' hI hF hl
      have hex := execCall ho hcal hev hfn (w := w)
      unfold Oper.wp
      rw [hex, Oper.upon_enter]
      exact hcalls.mono fun e w' ⟨v, cv, σ', F', L', he, hq, hv, hI, hF, hl, hA⟩ => by
        obtain ⟨rfl, rfl⟩ := hq
        subst he
        exact hK _ _ _ _ hv hI hF hl hA
    | true =>
      obtain ⟨v', ⟨rfl, rfl⟩, hfn, hcalls⟩ := hP h
      have hex := execCall ho hcal hev hfn (w := w)
      unfold Oper.wp
      rw [hex, Oper.upon_enter]
      exact (hcalls har' hI fun _ _ => rfl).mono fun e w' ⟨cv, F', he, hv, hI, hA⟩ => by
        subst he
        exact hK _ _ _ _ hv hI hF hl hA
  · rename_i h1 h2
    obtain ⟨hst, hnc⟩ := AOp.strip_notCall h1 h2
    rw [hst] at hc
    obtain ⟨w', L', hres, hI', hA, hF'⟩ := w_step hc hnc h hI hF (eval_const a) hr
    have hl' := step_lv h hl
    unfold Oper.wp
    rcases hres with ⟨cv, hrun, hv⟩ | ⟨hrun, rfl⟩
    · rw [hrun, Oper.upon_value]
      exact hK _ _ _ _ hv hI' hF' hl' hA
    · rw [hrun, Oper.upon_skip]
      exact hK _ _ _ _ .und hI' hF' hl' hA


/-! ### The run of the text's order -/
structure RunD (cw : CallW) (lv : List Nat) (aos : List AOper) (es : Nat → Env) (ss : Nat → Sto) : Prop where
  step : ∀ (i : Nat) (ao : AOper), aos[i]? = some ao → Step1 cw lv ao (es i) (ss i) (es (i + 1)) (ss (i + 1))
  ok : DrawOk aos

theorem put_len (e : Env) (d : Option Nat) (v : AVal) : (put e d v).length = e.length := by cases d <;> simp [put]
theorem put_ne {e : Env} {d : Option Nat} {v : AVal} {t : Nat} (h : d ≠ some t) : (put e d v).getD t .und = e.getD t .und := by
  cases d with
  | none => rfl
  | some d =>
    have : d ≠ t := fun h' => h (by rw [h'])
    simp [put, List.getD_eq_getElem?_getD, List.getElem?_set, this]

theorem Step1.put {cw : CallW} {lv : List Nat} {ao : AOper} {e e' : Env} {σ σ' : Sto} (h : Step1 cw lv ao e σ e' σ') : ∃ v, e' = Abs.put e ao.dst v := by
  rcases h with ⟨_, h, _⟩ | ⟨_, v, h, _⟩
  · exact ⟨_, h⟩
  · exact ⟨_, h⟩

section
variable {cw : CallW} {lv : List Nat} {aos : List AOper} {es : Nat → Env} {ss : Nat → Sto}

theorem RunD.len (h : RunD cw lv aos es ss) : ∀ {i : Nat}, i ≤ aos.length → (es i).length = (es 0).length
  | 0, _ => rfl
  | i + 1, hi => by
    obtain ⟨v, hv⟩ := (h.step i _ (List.getElem?_eq_getElem (by omega))).put
    rw [hv, put_len]; exact h.len (by omega)

theorem RunD.keep (h : RunD cw lv aos es ss) {t i : Nat} : ∀ {k : Nat}, i + k ≤ aos.length → (∀ (j : Nat) (ao : AOper), i ≤ j → j < i + k → aos[j]? = some ao → ao.dst ≠ some t) → (es (i + k)).getD t .und = (es i).getD t .und
  | 0, _, _ => rfl
  | k + 1, hi, hn => by
    obtain ⟨v, hv⟩ := (h.step (i + k) _ (List.getElem?_eq_getElem (by omega))).put
    rw [← Nat.add_assoc, hv, put_ne (hn (i + k) _ (by omega) (by omega) (List.getElem?_eq_getElem (by omega)))]
    exact h.keep (by omega) fun j ao h1 h2 => hn j ao h1 (by omega)

/-- what stands after an operation stands to the end -/
theorem RunD.after (h : RunD cw lv aos es ss) {t j : Nat} {ao : AOper} (hj : aos[j]? = some ao) (hd : ao.dst = some t) {i : Nat} (h1 : j < i) (h2 : i ≤ aos.length) : (es i).getD t .und = (es aos.length).getD t .und := by
  have key : ∀ {i' : Nat}, j < i' → i' ≤ aos.length → (es i').getD t .und = (es (j + 1)).getD t .und := fun {i'} g1 g2 => by
    have := h.keep (t := t) (i := j + 1) (k := i' - (j + 1)) (by omega) fun j' ao' k1 k2 k3 k4 => by
      have := h.ok.dst j' j ao' ao t k3 hj k4 hd; omega
    rwa [show j + 1 + (i' - (j + 1)) = i' by omega] at this
  rw [key h1 h2, key (by omega) (Nat.le_refl _)]

theorem RunD.first (h : RunD cw lv aos es ss) {t i : Nat} (hi : i ≤ aos.length) (hn : ∀ (j : Nat) (ao : AOper), j < i → aos[j]? = some ao → ao.dst ≠ some t) : (es i).getD t .und = (es 0).getD t .und := by
  have := h.keep (t := t) (i := 0) (k := i) (by omega) fun j ao _ h2 => hn j ao (by omega)
  simpa using this

/-- has a listed operation written the place? -/
def Wrote (aos : List AOper) (listed : Array Bool) (t : Nat) : Prop := ∃ (j : Nat) (ao : AOper), listed.getD j false = true ∧ aos[j]? = some ao ∧ ao.dst = some t

open Classical in
noncomputable def envS (aos : List AOper) (es : Nat → Env) (listed : Array Bool) : Env :=
  (List.range (es 0).length).map fun t => if Wrote aos listed t then (es aos.length).getD t .und else (es 0).getD t .und

theorem envS_len {listed : Array Bool} : (envS aos es listed).length = (es 0).length := by simp [envS]

open Classical in
theorem envS_get {listed : Array Bool} {t : Nat} (ht : t < (es 0).length) : (envS aos es listed)[t]? = some (if Wrote aos listed t then (es aos.length).getD t .und else (es 0).getD t .und) := by
  simp [envS, ht]

theorem getD_of_both {e e' : Env} (hl : e.length = e'.length) {t : Nat} (h : t < e.length → e[t]? = e'[t]?) : e[t]? = e'[t]? := by
  rcases Nat.lt_or_ge t e.length with ht | ht
  · exact h ht
  · rw [List.getElem?_eq_none ht, List.getElem?_eq_none (hl ▸ ht)]

theorem get_of_getD {e : Env} {t : Nat} (h : t < e.length) : e[t]? = some (e.getD t .und) := by
  rw [List.getD_eq_getElem?_getD, List.getElem?_eq_getElem h]; rfl

structure Closed (aos : List AOper) (listed : Array Bool) : Prop where
  size : listed.size = aos.length
  cl : ∀ (j : Nat) (ao : AOper), aos[j]? = some ao → listed.getD j false = true → ∀ e ∈ ao.after, listed.getD e false = true

theorem Closed.anc {listed : Array Bool} (h : Closed aos listed) (hd : DrawOk aos) {i : Nat} {ao : AOper} (hi : aos[i]? = some ao) (hall : ∀ e ∈ ao.after, listed.getD e false = true) {j : Nat} (hj : ((ancs aos).getD i 0).testBit j = true) :
    listed.getD j false = true :=
  ancs_closed (S := fun j => listed.getD j false = true) h.cl hd.lt i hi hall hj

/-- an operation that is ready reads what it reads in the text's order -/
theorem RunD.reads (h : RunD cw lv aos es ss) {listed : Array Bool} (hc : Closed aos listed) {i : Nat} {ao : AOper} (hi : aos[i]? = some ao) (hun : listed.getD i false = false) (hall : ∀ e ∈ ao.after, listed.getD e false = true)
    {t : Nat} (ht : ao.looks t = true) : (envS aos es listed)[t]? = (es i)[t]? := by
  have hil : i < aos.length := (List.getElem?_eq_some_iff.1 hi).1
  refine getD_of_both (by rw [envS_len, h.len (Nat.le_of_lt hil)]) fun hlt => ?_
  rw [envS_len] at hlt
  rw [envS_get hlt, get_of_getD (by rw [h.len (Nat.le_of_lt hil)]; exact hlt)]
  congr 1
  split
  · rename_i hw
    obtain ⟨j, aj, h1, h2, h3⟩ := hw
    have hne : i ≠ j := fun he => by subst he; rw [hun] at h1; cases h1
    have hb := h.ok.read i j ao aj t hi h2 hne h3 ht
    unfold before at hb
    split at hb
    · rename_i hlt'
      exact (h.after h2 h3 hlt' (Nat.le_of_lt hil)).symm
    · have := hc.anc h.ok h2 (hc.cl j aj h2 h1) hb
      rw [hun] at this; cases this
  · rename_i hw
    refine (h.first (Nat.le_of_lt hil) fun j aj hj h2 h3 => hw ⟨j, aj, ?_, h2, h3⟩).symm
    have hb := h.ok.read i j ao aj t hi h2 (by omega) h3 ht
    unfold before at hb
    rw [if_pos hj] at hb
    exact hc.anc h.ok hi hall hb

theorem Wrote.set {listed : Array Bool} {i : Nat} {ao : AOper} (hi : aos[i]? = some ao) (hlt : i < listed.size) {t : Nat} : Wrote aos (listed.setIfInBounds i true) t ↔ ao.dst = some t ∨ Wrote aos listed t := by
  constructor
  · rintro ⟨j, aj, h1, h2, h3⟩
    by_cases hij : i = j
    · subst hij; rw [hi] at h2; obtain rfl := Option.some.inj h2; exact .inl h3
    · rw [getD_set_ne false hij] at h1; exact .inr ⟨j, aj, h1, h2, h3⟩
  · rintro (h | ⟨j, aj, h1, h2, h3⟩)
    · exact ⟨i, ao, by simp [hlt], hi, h⟩
    · exact ⟨j, aj, getD_set_true h1, h2, h3⟩

/-- the places after one operation more -/
theorem RunD.envS_put (h : RunD cw lv aos es ss) {listed : Array Bool} (hs : listed.size = aos.length) {i : Nat} {ao : AOper} (hi : aos[i]? = some ao) {v : AVal} (hv : es (i + 1) = put (es i) ao.dst v) :
    envS aos es (listed.setIfInBounds i true) = put (envS aos es listed) ao.dst v := by
  have hil : i < aos.length := (List.getElem?_eq_some_iff.1 hi).1
  apply List.ext_getElem?
  intro t
  refine getD_of_both (by rw [put_len, envS_len, envS_len]) fun hlt => ?_
  rw [envS_len] at hlt
  rw [envS_get hlt]
  by_cases hd : ao.dst = some t
  · rw [if_pos ((Wrote.set hi (hs ▸ hil)).2 (.inl hd))]
    have h1 := h.after hi hd (Nat.lt_succ_self i) (Nat.succ_le_of_lt hil)
    rw [← h1, hv, hd]
    have hlt' : t < (es i).length := by rw [h.len (Nat.le_of_lt hil)]; exact hlt
    simp [put, List.getD_eq_getElem?_getD, List.getElem?_set, hlt', envS_len, hlt]
  · have hp : (put (envS aos es listed) ao.dst v)[t]? = (envS aos es listed)[t]? := by
      cases hdd : ao.dst with
      | none => rfl
      | some d =>
        have : d ≠ t := fun h' => hd (by rw [hdd, h'])
        simp [put, List.getElem?_set, this]
    rw [hp, envS_get hlt]
    have : Wrote aos (listed.setIfInBounds i true) t ↔ Wrote aos listed t := (Wrote.set hi (hs ▸ hil)).trans ⟨fun h => h.resolve_left hd, .inr⟩
    by_cases hw : Wrote aos listed t
    · rw [if_pos (this.2 hw), if_pos hw]
    · rw [if_neg (fun h => hw (this.1 h)), if_neg hw]

/-- where no operation writes, the store only grows -/
theorem RunD.grow (h : RunD cw lv aos es ss) {P : Program} {ops : List Oper} (hP : PureOk P cw) (hops : ∀ (i : Nat) (ao : AOper), aos[i]? = some ao → ∃ o, ops[i]? = some o ∧ (cOp P o).getD .unsup = ao.op.strip)
    {i : Nat} : ∀ {k : Nat}, i + k ≤ aos.length → (∀ (j : Nat) (ao : AOper), i ≤ j → j < i + k → aos[j]? = some ao → ao.op.isW = false) → ∃ new, ss (i + k) = ss i ++ new
  | 0, _, _ => ⟨[], by simp⟩
  | k + 1, hi, hn => by
    obtain ⟨new, hnew⟩ := h.grow hP hops (i := i) (k := k) (by omega) fun j ao h1 h2 => hn j ao h1 (by omega)
    have hg : aos[i + k]? = some aos[i + k] := List.getElem?_eq_getElem (by omega)
    rcases h.step (i + k) _ hg with ⟨_, _, hs⟩ | ⟨_, v, _, hs⟩
    · exact ⟨new, by rw [← Nat.add_assoc, hs, hnew]⟩
    · obtain ⟨o, _, hc⟩ := hops _ _ hg
      obtain ⟨new', he, _⟩ := q_oper hP (cOp_of hc (stepOf_sup hs)) (hn _ _ (by omega) (by omega) hg) hs
      exact ⟨new ++ new', by rw [← Nat.add_assoc, he, hnew, List.append_assoc]⟩

end

/-! ### What holds after some of the operations -/
structure DInv (P : Program) (cw : CallW) (lv : List Nat) (aos : List AOper) (es : Nat → Env) (ss : Nat → Sto) (listed : Array Bool) (m k : Nat) (F : Frz) (L : Lay) (a : Act) (w : World) : Prop where
  cl : Closed aos listed
  le1 : m ≤ k
  le2 : k ≤ aos.length
  noW : ∀ (j : Nat) (ao : AOper), m ≤ j → j < k → aos[j]? = some ao → ao.op.isW = false
  kW : ∀ ao, aos[k]? = some ao → ao.op.isW = true
  pre : ∀ (j : Nat) (ao : AOper), j < m → aos[j]? = some ao → ao.op.isReg = false → listed.getD j false = true
  post : ∀ (j : Nat) (ao : AOper), k ≤ j → aos[j]? = some ao → ao.op.isReg = false → listed.getD j false = false
  env : EnvRel F L (envS aos es listed) a.tmps
  defers : a.defers = []
  inv : Inv F L (ss k) w
  ids : ∀ o, L o ≠ .un ↔ o < (ss m).length ∨ ∃ j, m ≤ j ∧ j < k ∧ listed.getD j false = true ∧ (ss j).length ≤ o ∧ o < (ss (j + 1)).length
  lv : LvOk lv (ss m)


theorem getD_both' {listed : Array Bool} {i : Nat} (h : listed.getD i true = false) : listed.getD i false = false := by
  rcases Nat.lt_or_ge i listed.size with h' | h'
  · simp [h'] at h ⊢; exact h
  · simp [Array.getElem?_eq_none h'] at h

structure OpRel (P : Program) (ops : Array Oper) (ao : AOper) (o : Oper) : Prop where
  op : (cOp P o).getD .unsup = ao.op.strip
  dst : ao.dst = o.dst
  guard : ao.guard = o.guard.map fun (j, want) => ((ops[j]?).bind (·.dst), want)
  after : ao.after = (o.after.toList.filter (Region.binds .any)).map (·.on)
  reads : ao.reads = o.op.operands.toList.filterMap opTmp

theorem isW_reg {op : AOp} (h : op.isW = true) : op.isReg = false := by
  cases op <;> first | rfl | (simp [AOp.isW, AOp.isQ] at h; done)

theorem nextW (aos : List AOper) : ∀ (d m : Nat), m + d = aos.length → ∃ k, m ≤ k ∧ k ≤ aos.length ∧ (∀ (j : Nat) (ao : AOper), m ≤ j → j < k → aos[j]? = some ao → ao.op.isW = false) ∧ ∀ ao, aos[k]? = some ao → ao.op.isW = true
  | 0, m, h => ⟨m, Nat.le_refl _, by omega, fun j ao h1 h2 => by omega, fun ao hao => by have := (List.getElem?_eq_some_iff.1 hao).1; omega⟩
  | d + 1, m, h => by
    by_cases hw : (aos[m]'(by omega)).op.isW = true
    · exact ⟨m, Nat.le_refl _, by omega, fun j ao h1 h2 => by omega, fun ao hao => by rw [List.getElem?_eq_getElem (by omega)] at hao; obtain rfl := Option.some.inj hao; exact hw⟩
    · obtain ⟨k, h1, h2, h3, h4⟩ := nextW aos d (m + 1) (by omega)
      refine ⟨k, by omega, h2, fun j ao g1 g2 g3 => ?_, h4⟩
      by_cases hj : j = m
      · subst hj; rw [List.getElem?_eq_getElem (by omega)] at g3; obtain rfl := Option.some.inj g3; simpa using hw
      · exact h3 j ao (by omega) g2 g3

section
variable {cw : CallW} {lv : List Nat} {aos : List AOper} {es : Nat → Env} {ss : Nat → Sto} {ops : Array Oper}

theorem RunD.reg (h : RunD cw lv aos es ss) (hP : PureOk P cw) (hops : ∀ (i : Nat) (ao : AOper), aos[i]? = some ao → ∃ o, ops.toList[i]? = some o ∧ (cOp P o).getD .unsup = ao.op.strip) {i : Nat} {ao : AOper} (hi : aos[i]? = some ao) (hr : ao.op.isReg = true) : ss (i + 1) = ss i := by
  rcases h.step i _ hi with ⟨_, _, hs⟩ | ⟨_, v, _, hs⟩
  · exact hs
  · obtain ⟨o, _, hc⟩ := hops _ _ hi
    have hw : ao.op.isW = false := by
      cases hw : ao.op.isW with
      | false => rfl
      | true => rw [isW_reg hw] at hr; cases hr
    obtain ⟨new', he, hn, _⟩ := q_oper hP (cOp_of hc (stepOf_sup hs)) hw hs
    rw [he, hn hr, List.append_nil]

theorem DInv.grow {listed : Array Bool} {m k : Nat} {F : Frz} {L : Lay} {a : Act} {w : World} (h : DInv P cw lv aos es ss listed m k F L a w) (hR : RunD cw lv aos es ss) (hP : PureOk P cw)
    (hops : ∀ (i : Nat) (ao : AOper), aos[i]? = some ao → ∃ o, ops.toList[i]? = some o ∧ (cOp P o).getD .unsup = ao.op.strip) {x y : Nat} (h1 : m ≤ x) (h2 : x ≤ y) (h3 : y ≤ k) : ∃ new, ss y = ss x ++ new := by
  have := hR.grow (k := y - x) hP hops (i := x) (by have := h.le2; omega) fun j ao g1 g2 g3 => h.noW j ao (by omega) (by omega) g3
  rwa [show x + (y - x) = y by omega] at this

theorem app_len {a b n : Sto} (h : a = b ++ n) : b.length ≤ a.length := by rw [h]; simp

theorem DInv.finishQ {listed : Array Bool} {m k : Nat} {F : Frz} {L : Lay} {a : Act} {w : World} (h : DInv P cw lv aos es ss listed m k F L a w) {i : Nat} {ao : AOper} (hi : aos[i]? = some ao) (hall : ∀ e ∈ ao.after, listed.getD e false = true)
    (hpos : m ≤ i ∧ i < k ∨ ss (i + 1) = ss i) (hnw : ao.op.isReg = false → i < k) {F' : Frz} {L' : Lay} {a' : Act} {w' : World} (henv : EnvRel F' L' (envS aos es (listed.setIfInBounds i true)) a'.tmps) (hd : a'.defers = [])
    (hI : Inv F' L' (ss k) w') (hid : ∀ o, L' o ≠ .un ↔ L o ≠ .un ∨ ((ss i).length ≤ o ∧ o < (ss (i + 1)).length)) : DInv P cw lv aos es ss (listed.setIfInBounds i true) m k F' L' a' w' := by
  have hil : i < aos.length := (List.getElem?_eq_some_iff.1 hi).1
  have hset : ∀ j, (listed.setIfInBounds i true).getD j false = true ↔ j = i ∨ listed.getD j false = true := by
    intro j
    by_cases hj : i = j
    · subst hj; simp [h.cl.size, hil]
    · rw [getD_set_ne false hj]; constructor
      · exact .inr
      · intro g; exact g.resolve_left (fun e => hj e.symm)
  refine ⟨⟨by simp [h.cl.size], fun j aj hj hl e he => ?_⟩, h.le1, h.le2, h.noW, h.kW, fun j aj hj haj hr => (hset j).2 (.inr (h.pre j aj hj haj hr)), fun j aj hj haj hr => ?_, henv, hd, hI, fun o => ?_, h.lv⟩
  · rcases (hset j).1 hl with rfl | hl
    · rw [hi] at hj; obtain rfl := Option.some.inj hj
      exact (hset e).2 (.inr (hall e he))
    · exact (hset e).2 (.inr (h.cl.cl j aj hj hl e he))
  · have hne : i ≠ j := fun e => by subst e; rw [hi] at haj; obtain rfl := Option.some.inj haj; have := hnw hr; omega
    rw [getD_set_ne false hne]; exact h.post j aj hj haj hr
  · rw [hid, h.ids]
    constructor
    · rintro ((h1 | ⟨j, h1, h2, h3, h4⟩) | h1)
      · exact .inl h1
      · exact .inr ⟨j, h1, h2, (hset j).2 (.inr h3), h4⟩
      · rcases hpos with hp | hp
        · exact .inr ⟨i, hp.1, hp.2, (hset i).2 (.inl rfl), h1⟩
        · rw [hp] at h1; omega
    · rintro (h1 | ⟨j, h1, h2, h3, h4⟩)
      · exact .inl (.inl h1)
      · rcases (hset j).1 h3 with rfl | h3
        · exact .inr h4
        · exact .inl (.inr ⟨j, h1, h2, h3, h4⟩)

theorem DInv.finishW {listed : Array Bool} {m : Nat} {F : Frz} {L : Lay} {a : Act} {w : World} {i : Nat} (h : DInv P cw lv aos es ss listed m i F L a w) (hR : RunD cw lv aos es ss) (hP : PureOk P cw)
    (hops : ∀ (i : Nat) (ao : AOper), aos[i]? = some ao → ∃ o, ops.toList[i]? = some o ∧ (cOp P o).getD .unsup = ao.op.strip) {ao : AOper} (hi : aos[i]? = some ao) (hall : ∀ e ∈ ao.after, listed.getD e false = true)
    (hbef : ∀ (j : Nat) (aj : AOper), j < i → aos[j]? = some aj → aj.op.isReg = false → listed.getD j false = true) {F' : Frz} {L' : Lay} {a' : Act} {w' : World} (henv : EnvRel F' L' (envS aos es (listed.setIfInBounds i true)) a'.tmps) (hd : a'.defers = [])
    (hI : Inv F' L' (ss (i + 1)) w') (hF : Full L' (ss (i + 1))) (hl : LvOk lv (ss (i + 1))) : ∃ k, DInv P cw lv aos es ss (listed.setIfInBounds i true) (i + 1) k F' L' a' w' := by
  have hil : i < aos.length := (List.getElem?_eq_some_iff.1 hi).1
  have hset : ∀ j, (listed.setIfInBounds i true).getD j false = true ↔ j = i ∨ listed.getD j false = true := by
    intro j
    by_cases hj : i = j
    · subst hj; simp [h.cl.size, hil]
    · rw [getD_set_ne false hj]; constructor
      · exact .inr
      · intro g; exact g.resolve_left (fun e => hj e.symm)
  obtain ⟨k, k1, k2, k3, k4⟩ := nextW aos (aos.length - (i + 1)) (i + 1) (by omega)
  obtain ⟨new, hnew⟩ := hR.grow (k := k - (i + 1)) hP hops (i := i + 1) (by omega) fun j aj g1 g2 g3 => k3 j aj (by omega) (by omega) g3
  rw [show i + 1 + (k - (i + 1)) = k by omega] at hnew
  refine ⟨k, ⟨by simp [h.cl.size], fun j aj hj hl e he => ?_⟩, k1, k2, k3, k4, fun j aj hj haj hr => ?_, fun j aj hj haj hr => ?_, henv, hd, ?_, fun o => ?_, hl⟩
  · rcases (hset j).1 hl with rfl | hl
    · rw [hi] at hj; obtain rfl := Option.some.inj hj
      exact (hset e).2 (.inr (hall e he))
    · exact (hset e).2 (.inr (h.cl.cl j aj hj hl e he))
  · rcases Nat.lt_succ_iff_lt_or_eq.1 hj with hj | rfl
    · exact (hset j).2 (.inr (hbef j aj hj haj hr))
    · exact (hset j).2 (.inl rfl)
  · rw [getD_set_ne false (by omega)]; exact h.post j aj (by omega) haj hr
  · rw [hnew]; exact hI.extend (fun x hx => List.getElem?_append_left hx) (by simp)
  · constructor
    · intro ho; exact .inl (hI.lt o ho)
    · rintro (h1 | ⟨j, h1, h2, h3, h4⟩)
      · exact hF o h1
      · exfalso
        have hjl : j < aos.length := by omega
        have hja := List.getElem?_eq_getElem hjl
        cases hr : aos[j].op.isReg with
        | true => have := hR.reg hP hops hja hr; rw [this] at h4; omega
        | false =>
          rcases (hset j).1 h3 with rfl | h3
          · omega
          · have := h.post j _ (by omega) hja hr
            rw [this] at h3; cases h3


theorem wanted_read {e e' : Env} {ao : AOper} (h : ∀ t, ao.looks t = true → e'[t]? = e[t]?) : wantedA ao e' = wantedA ao e := by
  unfold wantedA
  cases hg : ao.guard with
  | none => rfl
  | some g =>
    obtain ⟨t, want⟩ := g
    cases t with
    | none => rfl
    | some t =>
      have := h t (by simp [AOper.looks, hg])
      simp only [Option.bind_some, this]

theorem DInv.step {listed : Array Bool} {m k : Nat} {F : Frz} {L : Lay} {a : Act} {w : World} (h : DInv P cw lv aos es ss listed m k F L a w) (hR : RunD cw lv aos es ss) (hC : CallsOk P cw) (hP : PureOk P cw)
    (hops : ∀ (i : Nat) (ao : AOper), aos[i]? = some ao → ∃ o, ops[i]? = some o ∧ OpRel P ops ao o) {i : Nat} (hi : i ∈ Region.ready .any ops listed) (hsz : ops.size = aos.length)
    {next : Act → World → Prop} {Q : Exit → Act → World → Prop} (hK : ∀ m' k' F' L' a' w', DInv P cw lv aos es ss (listed.setIfInBounds i true) m' k' F' L' a' w' → Adv F L w F' L' w' → next a' w') : wpOp P ops Q i next a w := by
  obtain ⟨hun', o, ho, hbind⟩ := mem_ready.1 hi
  have hun := getD_both' hun'
  have hil : i < aos.length := by rw [← hsz]; exact (Array.getElem?_eq_some_iff.1 ho).1
  have hao := List.getElem?_eq_getElem hil
  generalize aos[i] = ao at hao
  obtain ⟨o', ho', hrel⟩ := hops i ao hao
  obtain rfl : o = o' := Option.some.inj (ho.symm.trans ho')
  have hall : ∀ e ∈ ao.after, listed.getD e false = true := by
    intro e he
    rw [hrel.after] at he
    simp only [List.mem_map, List.mem_filter, Array.mem_toList_iff] at he
    obtain ⟨x, ⟨h1, h2⟩, rfl⟩ := he
    exact hbind x h1 h2
  have hops' : ∀ (i : Nat) (ao : AOper), aos[i]? = some ao → ∃ o, ops.toList[i]? = some o ∧ (cOp P o).getD .unsup = ao.op.strip := fun i ao hi => by
    obtain ⟨o, h1, h2⟩ := hops i ao hi
    exact ⟨o, by simpa using h1, h2.op⟩
  have hbk : ∀ {j : Nat}, ((ancs aos).getD i 0).testBit j = true → listed.getD j false = true := fun hj => h.cl.anc hR.ok hao hall hj
  -- where it stands
  have hik : ao.op.isReg = false → i ≤ k := fun hr => by
    apply Classical.byContradiction
    intro hc
    have hlt : k < i := by omega
    have hk := List.getElem?_eq_getElem (show k < aos.length by omega)
    have hw := h.kW _ hk
    have hb := hR.ok.wr k i _ ao hk hao (by omega) hw hr
    unfold before at hb
    rw [if_neg (by omega)] at hb
    have := h.post k _ (Nat.le_refl _) hk (isW_reg hw)
    rw [hbk hb] at this; cases this
  have hmi : ao.op.isReg = false → m ≤ i := fun hr => by
    apply Classical.byContradiction
    intro hc
    have := h.pre i ao (by omega) hao hr
    rw [hun] at this; cases this
  -- what it reads
  have hrd := fun t ht => hR.reads h.cl hao hun hall (t := t) ht
  have hreads : ∀ x ∈ o.op.operands.toList, Reads F L (es i) a.eval x := by
    intro x hx y hy
    cases x with
    | tmp t =>
      simp only [opdA, Option.some.injEq] at hy
      subst hy
      have ht : ao.looks t = true := by
        have : t ∈ ao.reads := by rw [hrel.reads]; exact List.mem_filterMap.2 ⟨_, hx, rfl⟩
        simp [AOper.looks, this]
      have := h.env.reads (a := a) (.tmp t) (.tmp t) rfl
      simp only [ev, List.getD_eq_getElem?_getD, hrd t ht] at this ⊢
      exact this
    | const v =>
      have := h.env.reads (a := a) _ y hy
      simp only [opdA, Option.map_eq_some_iff] at hy
      obtain ⟨z, _, rfl⟩ := hy
      exact this
    | func f =>
      have := h.env.reads (a := a) _ y hy
      simp only [opdA, Option.some.injEq] at hy
      subst hy
      exact this
    | global g => simp [opdA] at hy
  have hwant : ∀ b, wantedA ao (es i) = some b → Region.wanted o (yielded ops a.tmps) = b := fun b hb =>
    wanted_sound h.env hrel.guard (by rw [wanted_read hrd]; exact hb)
  have hbef : i = k → ∀ (j : Nat) (aj : AOper), j < i → aos[j]? = some aj → aj.op.isReg = false → listed.getD j false = true := fun he j aj hj haj hr => by
    have hb := hR.ok.wr i j ao aj hao haj (by omega) (h.kW ao (he ▸ hao)) hr
    unfold before at hb
    rw [if_pos hj] at hb
    exact hbk hb
  have hfull : i = k → Full L (ss k) := fun he o ho => by
    rw [h.ids]
    rcases Nat.lt_or_ge o (ss m).length with hlt | hge
    · exact .inl hlt
    · right
      -- the first place at which the object is there
      have key : ∀ (d : Nat), m + d ≤ k → o < (ss (m + d)).length → ∃ j, m ≤ j ∧ j < k ∧ (ss j).length ≤ o ∧ o < (ss (j + 1)).length := by
        intro d
        induction d with
        | zero => intro _ h2; exact absurd h2 (by simpa using hge)
        | succ d ih =>
          intro h1 h2
          rcases Nat.lt_or_ge o (ss (m + d)).length with h3 | h3
          · exact ih (by omega) h3
          · exact ⟨m + d, by omega, by omega, h3, h2⟩
      obtain ⟨j, j1, j2, j3, j4⟩ := key (k - m) (by have := h.le1; omega) (by rw [show m + (k - m) = k by have := h.le1; omega]; exact ho)
      have hja := List.getElem?_eq_getElem (show j < aos.length by omega)
      refine ⟨j, j1, j2, ?_, j3, j4⟩
      cases hr : aos[j].op.isReg with
      | true => have := hR.reg hP hops' hja hr; rw [this] at j4; omega
      | false => exact hbef he j _ (by omega) hja hr
  have hlvk : LvOk lv (ss k) := by
    obtain ⟨new, hn⟩ := h.grow hR hP hops' (Nat.le_refl m) h.le1 (Nat.le_refl k)
    rw [hn]; exact h.lv.append new
  have hdef : ∀ cv, (a.put o.dst cv).defers = [] := fun cv => by have := h.defers; cases o.dst <;> simpa [Act.put] using this
  have hput : ∀ {v : AVal} {cv : Value} {F' : Frz} {L' : Lay} {w' : World}, es (i + 1) = put (es i) ao.dst v → VRel F' L' v cv → Adv F L w F' L' w' → EnvRel F' L' (envS aos es (listed.setIfInBounds i true)) (a.put o.dst cv).tmps := fun {v cv F' L' w'} he hv hA => by
    rw [hR.envS_put h.cl.size hao he, hrel.dst]
    exact (h.env.mono hA.frz hA.evo).put hv
  unfold wpOp
  simp only [ho]
  rcases hR.step i ao hao with ⟨hw, he, hs⟩ | ⟨hw, v, he, hs⟩
  · rw [if_neg (by rw [hwant _ hw]; simp)]
    by_cases hisk : i = k
    · subst hisk
      obtain ⟨k', hD⟩ := h.finishW hR hP hops' hao hall (hbef rfl) (hput he skipped_rel (Adv.refl F L w)) (hdef undef) (hs ▸ h.inv) (hs ▸ hfull rfl) (hs ▸ hlvk)
      exact hK _ _ _ _ _ _ hD (Adv.refl F L w)
    · exact hK _ _ _ _ _ _ (h.finishQ hao hall (.inr hs) (fun hr => by have := hik hr; omega) (hput he skipped_rel (Adv.refl F L w)) (hdef undef) h.inv fun o => ⟨.inl, fun h => h.elim id fun h => by rw [hs] at h; omega⟩) (Adv.refl F L w)
  · rw [if_pos (hwant _ hw)]
    left
    by_cases hisk : i = k
    · subst hisk
      refine w_oper hC hP (cOp_of hrel.op (stepOf_sup hs)) hs h.inv (hfull rfl) hlvk hreads fun cv F' L' w' hv hI hF hl hA => ?_
      obtain ⟨k', hD⟩ := h.finishW hR hP hops' hao hall (hbef rfl) (hput he hv hA) (hdef cv) hI hF hl
      exact hK _ _ _ _ _ _ hD hA
    · have hnW : ao.op.isW = false := by
        cases hW : ao.op.isW with
        | false => rfl
        | true =>
          have hr := isW_reg hW
          have := h.noW i ao (hmi hr) (by have := hik hr; omega) hao
          rw [hW] at this; cases this
      obtain ⟨new, hn, hnr, hq⟩ := q_oper hP (cOp_of hrel.op (stepOf_sup hs)) hnW hs
      have hpos : ao.op.isReg = false → m ≤ i ∧ i < k := fun hr => ⟨hmi hr, by have := hik hr; omega⟩
      refine hq h.inv ?_ hreads fun cv F' L' w' hv hI hA hid => ?_
      · cases hr : ao.op.isReg with
        | true => exact .inl rfl
        | false =>
          right
          obtain ⟨p1, p2⟩ := hpos hr
          obtain ⟨n1, hn1⟩ := h.grow hR hP hops' (x := i) (y := k) p1 (by omega) (Nat.le_refl k)
          obtain ⟨n2, hn2⟩ := h.grow hR hP hops' (x := i + 1) (y := k) (by omega) (by omega) (Nat.le_refl k)
          refine ⟨fun x hx => by rw [hn1]; exact List.getElem?_append_left hx, fun x ob hx => ⟨?_, ?_⟩⟩
          · rw [hn2, hn]
            have hxl : x < new.length := (List.getElem?_eq_some_iff.1 hx).1
            rw [List.getElem?_append_left (by simp; omega), List.getElem?_append_right (by omega), Nat.add_sub_cancel_left]; exact hx
          · have hxl : x < new.length := (List.getElem?_eq_some_iff.1 hx).1
            apply Classical.byContradiction
            intro hne
            rcases (h.ids _).1 hne with h1 | ⟨j, j1, j2, j3, j4, j5⟩
            · obtain ⟨n3, hn3⟩ := h.grow hR hP hops' (x := m) (y := i) (Nat.le_refl m) p1 (by omega)
              have := app_len hn3; omega
            · rcases Nat.lt_trichotomy j i with hj | rfl | hj
              · obtain ⟨n3, hn3⟩ := h.grow hR hP hops' (x := j + 1) (y := i) (by omega) (by omega) (by omega)
                have := app_len hn3; omega
              · rw [hun] at j3; cases j3
              · obtain ⟨n3, hn3⟩ := h.grow hR hP hops' (x := i + 1) (y := j) (by omega) (by omega) (by omega)
                have := app_len hn3
                rw [hn, List.length_append] at this; omega
      · have hid' : ∀ o, L' o ≠ .un ↔ L o ≠ .un ∨ ((ss i).length ≤ o ∧ o < (ss (i + 1)).length) := fun o => by
          rw [hid o, hn, List.length_append]; rfl
        refine hK _ _ _ _ _ _ (h.finishQ hao hall ?_ (fun hr => (hpos hr).2) (hput he hv hA) (hdef cv) hI hid') hA
        cases hr : ao.op.isReg with
        | true => exact .inr (hR.reg hP hops' hao hr)
        | false => exact .inl (hpos hr)


/-- the order in which a region's operations are taken -/
inductive Ord (ops : Array Oper) : Array Bool → List Nat → Prop
  | nil {listed : Array Bool} : Region.ready .any ops listed = [] → Ord ops listed []
  | cons {listed : Array Bool} {i : Nat} {s : List Nat} : i ∈ Region.ready .any ops listed → Ord ops (listed.setIfInBounds i true) s → Ord ops listed (i :: s)

theorem DInv.all (hR : RunD cw lv aos es ss) (hC : CallsOk P cw) (hP : PureOk P cw)
    (hops : ∀ (i : Nat) (ao : AOper), aos[i]? = some ao → ∃ o, ops[i]? = some o ∧ OpRel P ops ao o) (hsz : ops.size = aos.length) {Q : Exit → Act → World → Prop} :
    ∀ (f : Nat) {listed : Array Bool} {m k : Nat} {F : Frz} {L : Lay} {a : Act} {w : World}, DInv P cw lv aos es ss listed m k F L a w →
      (∀ listed' m' k' F' L' a' w', DInv P cw lv aos es ss listed' m' k' F' L' a' w' → Region.ready .any ops listed' = [] → Adv F L w F' L' w' → Q .normal a' w') →
      listed.toList.countP (!·) = f → wpAny P .any ops Q f listed a w := by
  intro f
  induction f with
  | zero =>
    intro listed m k F L a w h hK hf
    have hr : Region.ready .any ops listed = [] := by
      apply List.eq_nil_iff_forall_not_mem.2
      intro i hi
      have := (mem_ready.1 hi).1
      have hlt : i < listed.size := by
        apply Classical.byContradiction
        intro hge
        rw [Array.getD_eq_getD_getElem?, Array.getElem?_eq_none (by omega)] at this; simp at this
      rw [List.countP_eq_zero] at hf
      have h1 := hf listed[i] (by simp)
      rw [Array.getD_eq_getD_getElem?, Array.getElem?_eq_getElem hlt] at this
      simp at this h1
      rw [this] at h1; cases h1
    exact ⟨hr, hK _ _ _ _ _ _ _ h hr (Adv.refl F L w)⟩
  | succ f ih =>
    intro listed m k F L a w h hK hf
    refine ⟨fun hr => hK _ _ _ _ _ _ _ h hr (Adv.refl F L w), fun i hi => ?_⟩
    refine h.step hR hC hP hops hi hsz fun m' k' F' L' a' w' hD hA => ?_
    refine ih hD (fun l2 m2 k2 F2 L2 a2 w2 g1 g2 g3 => hK _ _ _ _ _ _ _ g1 g2 (hA.trans g3)) ?_
    have hun := (mem_ready.1 hi).1
    have hlt : i < listed.toList.length := by
      apply Classical.byContradiction
      intro hge
      rw [Array.getD_eq_getD_getElem?, Array.getElem?_eq_none (by simpa using hge)] at hun; simp at hun
    have hli : listed.toList[i] = false := by
      rw [Array.getD_eq_getD_getElem?, Array.getElem?_eq_getElem (by simpa using hlt)] at hun
      simpa using hun
    rw [Array.toList_setIfInBounds, List.countP_set hlt, hli, hf]
    simp

/-- **A region that runs in any order.** -/
theorem draw_sound {cw : CallW} (hD : Det cw) (hC : CallsOk P cw) (hP : PureOk P cw) {lv : List Nat} {ops : Array Oper} {aos : List AOper} (hm : P.follows .mixedOrders = true) (hsz : ops.size = aos.length)
    (hops : ∀ (i : Nat) (ao : AOper), aos[i]? = some ao → ∃ o, ops[i]? = some o ∧ OpRel P ops ao o) (hok : drawOk aos = true) {id : Nat} {e : Env} {σ : Sto} {K : Env → Sto → Prop} (h : wpOpsA cw lv aos e σ K)
    {F : Frz} {L : Lay} {a : Act} {w : World} (hR : CRel F L lv e σ a w) {Q : Exit → Act → World → Prop} (hK : ∀ e' σ' F' L' a' w', K e' σ' → CRel F' L' lv e' σ' a' w' → Adv F L w F' L' w' → Q .normal a' w') : (Code.region id ops true).wp P Q a w := by
  obtain ⟨es, ss, rfl, rfl, hstep, hk⟩ := trace_of hD aos h
  have hRun : RunD cw lv aos es ss := ⟨hstep, drawOk_iff hok⟩
  obtain ⟨k, k1, k2, k3, k4⟩ := nextW aos aos.length 0 (by omega)
  have hops' : ∀ (i : Nat) (ao : AOper), aos[i]? = some ao → ∃ o, ops.toList[i]? = some o ∧ (cOp P o).getD .unsup = ao.op.strip := fun i ao hi => by
    obtain ⟨o, h1, h2⟩ := hops i ao hi
    exact ⟨o, by simpa using h1, h2.op⟩
  obtain ⟨new, hnew⟩ := hRun.grow (k := k) hP hops' (i := 0) (by omega) fun j aj g1 g2 g3 => k3 j aj g1 (by omega) g3
  rw [Nat.zero_add] at hnew
  have hfalse : ∀ j, (Array.replicate ops.size false).getD j false = false := fun j => by
    rw [Array.getD_eq_getD_getElem?, Array.getElem?_replicate]; split <;> rfl
  have hAd : Adv F L w F L { w with drawn := w.drawn + 1 } := ⟨Frz.Le.refl F, Evo.refl L, rfl, rfl, rfl, Nat.le_refl _, fun _ _ h => h, fun _ _ _ => rfl, fun _ _ _ => ⟨fun _ => rfl, rfl⟩⟩
  refine wp_region_any hm ?_
  have hinv0 : Inv F L (ss 0) { w with drawn := w.drawn + 1 } :=
    ⟨fun b off v h => by have := hR.inv.fz b off v h; rwa [← World.cell?_heap (w := w) (w' := { w with drawn := w.drawn + 1 }) rfl] at this, hR.inv.fm, fun o loc gen h => let ⟨ob, h1, h2⟩ := hR.inv.obj o loc gen h; ⟨ob, h1, h2.mono (Frz.Le.refl F) (Evo.refl L) fun b hb => rfl⟩, hR.inv.lt, hR.inv.inj, hR.inv.sep, hR.inv.dd⟩
  have h0 : DInv P cw lv aos es ss (Array.replicate ops.size false) 0 k F L a { w with drawn := w.drawn + 1 } := by
    refine ⟨⟨by simp [hsz], fun j ao _ hl => by rw [hfalse] at hl; cases hl⟩, Nat.zero_le _, k2, k3, k4, fun j ao hj => absurd hj (Nat.not_lt_zero _), fun j ao _ _ _ => hfalse j, ?_, hR.defers, ?_, fun o => ?_, hR.lv⟩
    · have : envS aos es (Array.replicate ops.size false) = es 0 := by
        apply List.ext_getElem?
        intro t
        refine getD_of_both envS_len fun hlt => ?_
        rw [envS_len] at hlt
        rw [envS_get hlt, if_neg, get_of_getD hlt]
        rintro ⟨j, ao, h1, _⟩
        rw [hfalse] at h1; cases h1
      rw [this]; exact hR.env
    · rw [hnew]; exact hinv0.extend (fun x hx => List.getElem?_append_left hx) (by simp)
    · constructor
      · intro ho; exact .inl (hinv0.lt o ho)
      · rintro (h1 | ⟨j, _, _, h3, _⟩)
        · exact hR.full o h1
        · rw [hfalse] at h3; cases h3
  refine DInv.all hRun hC hP hops hsz _ h0 (fun listed' m' k' F' L' a' w' hI hr hA => ?_) (by simp [List.countP_replicate])
  -- at the end all are listed
  have hlist : ∀ (i : Nat), i < aos.length → listed'.getD i false = true := by
    intro i
    induction i using Nat.strongRecOn with
    | _ i ih =>
    intro hil
    apply Classical.byContradiction
    intro hne
    have hao := List.getElem?_eq_getElem hil
    obtain ⟨o, ho, hrel⟩ := hops i _ hao
    have : i ∈ Region.ready .any ops listed' := by
      refine mem_ready.2 ⟨?_, o, ho, fun x hx hb => ?_⟩
      · have hlt : i < listed'.size := by rw [hI.cl.size]; exact hil
        rw [Array.getD_eq_getD_getElem?, Array.getElem?_eq_getElem hlt] at hne ⊢
        simpa using hne
      · have hmem : x.on ∈ aos[i].after := by
          rw [hrel.after]; exact List.mem_map.2 ⟨x, List.mem_filter.2 ⟨by simpa using hx, hb⟩, rfl⟩
        have hlt := hRun.ok.lt i _ hao _ hmem
        exact ih _ hlt (by omega)
    rw [hr] at this; cases this
  have hkn : k' = aos.length := by
    apply Classical.byContradiction
    intro hne
    have hlt : k' < aos.length := by have := hI.le2; omega
    have hak := List.getElem?_eq_getElem hlt
    have := hI.post k' _ (Nat.le_refl _) hak (isW_reg (hI.kW _ hak))
    rw [hlist k' hlt] at this; cases this
  subst hkn
  refine hK _ _ _ _ _ _ hk ⟨?_, hI.defers, hI.inv, fun o ho => ?_, ?_⟩ (hAd.trans hA)
  · have : envS aos es listed' = es aos.length := by
      apply List.ext_getElem?
      intro t
      refine getD_of_both (by rw [envS_len, hRun.len (Nat.le_refl _)]) fun hlt => ?_
      rw [envS_len] at hlt
      rw [envS_get hlt, get_of_getD (by rw [hRun.len (Nat.le_refl _)]; exact hlt)]
      congr 1
      split
      · rfl
      · rename_i hnw
        exact (hRun.first (Nat.le_refl _) fun j aj hj haj hd => hnw ⟨j, aj, hlist j hj, haj, hd⟩).symm
    rw [← this]; exact hI.env
  · rw [hI.ids]
    rcases Nat.lt_or_ge o (ss m').length with hlt | hge
    · exact .inl hlt
    · right
      have key : ∀ (d : Nat), m' + d ≤ aos.length → o < (ss (m' + d)).length → ∃ j, m' ≤ j ∧ j < aos.length ∧ (ss j).length ≤ o ∧ o < (ss (j + 1)).length := by
        intro d
        induction d with
        | zero => intro _ h2; exact absurd h2 (by simpa using hge)
        | succ d ih =>
          intro h1 h2
          rcases Nat.lt_or_ge o (ss (m' + d)).length with h3 | h3
          · exact ih (by omega) h3
          · exact ⟨m' + d, by omega, by omega, h3, h2⟩
      obtain ⟨j, j1, j2, j3, j4⟩ := key (aos.length - m') (by have := hI.le1; omega) (by rw [show m' + (aos.length - m') = aos.length by have := hI.le1; omega]; exact ho)
      exact ⟨j, j1, j2, hlist j j2, j3, j4⟩
  · obtain ⟨new, hn⟩ := hI.grow hRun hP hops' (Nat.le_refl m') hI.le1 (Nat.le_refl _)
    rw [hn]; exact hI.lv.append new

end

end
end Go.Abs
