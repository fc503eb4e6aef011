/- Parts of the proof: AbsCode, AbsDraw, AbsSep, AbsAlt, AbsRange, AbsCalls. -/
import Derived.Test.YtdiekiajedmaeaaAbsSound
import Derived.Test.YtdiekiajedmaeaaJAbsCore
set_option linter.all false
/- The abstract machine is sound: code and calls. -/
namespace Go.Abs
open Go
variable [Inhabited Glob] [Lps]


section
variable {P : Program} {bs : Nat}

theorem CRel.push {F : Frz} {L : Lay} {lv : List Nat} {e : Env} {σ : Sto} {a : Act} {w : World} (h : CRel bs F L lv e σ a w) : CRel bs F L (σ.length :: lv) e σ a w := by
 refine ⟨h.env, h.defers, h.inv, h.full, fun l hl => ?_⟩
 rcases List.mem_cons.1 hl with rfl | hl
 ·refine ⟨Nat.le_refl _, fun o ob ho hob => ?_⟩
  cases hL : L o with
  | un => exact absurd hL (h.full o ho)
  | dead => have := h.inv.dd o hL; rw [hob] at this; obtain rfl := Option.some.inj this; rfl
  | live loc g =>
   obtain ⟨ob', h1, h2⟩ := h.inv.obj o loc g hL
   rw [hob] at h1
   obtain rfl := Option.some.inj h1
   exact h2.under h.inv.lt
 ·exact h.lv l hl

theorem CRel.cut {F0 : Frz} {L0 : Lay} {w0 : World} {F : Frz} {L : Lay} {lv : List Nat} {n : Nat} {e : Env} {σ : Sto} {a : Act} {w : World} (h : CRel bs F L (n :: lv) e σ a w) (hlv : ∀ l ∈ lv, l ≤ n)
  (hL0 : ∀ o, L0 o ≠ .un → o < n) (hA : Adv F0 L0 w0 F L w) : CRel bs F (Zb9 L n) lv (Zaj n e) (σ.take n) a w ∧ Adv F0 L0 w0 F (Zb9 L n) w := by
 obtain ⟨hn, hobs⟩ := h.lv n (by simp)
 have hlive : ∀ {o loc g}, Zb9 L n o = .live loc g → o < n ∧ L o = .live loc g := by
  intro o loc g ho
  unfold Zb9 at ho
  split at ho
  ·exact ⟨by assumption, ho⟩
  ·simp at ho
 have hown : ∀ {b}, Zap (Zb9 L n) b → Zap L b := fun ⟨o, loc, g, h1, h2⟩ => ⟨o, loc, g, (hlive h1).2, h2⟩
 refine ⟨⟨⟨by simp [Zaj, h.env.1], fun t v hv => ?_⟩, h.defers, ⟨h.inv.fz, h.inv.fm, fun o loc g ho => ?_, fun o ho => ?_, fun o o' l l' g g' b h1 h2 => h.inv.inj _ _ _ _ _ _ b (hlive h1).2 (hlive h2).2, fun b hb => h.inv.sep b (hown hb), fun o ho => ?_, h.inv.gl⟩,
  fun o ho => ?_, fun l hl => ?_⟩, ⟨hA.frz, fun o => ?_, hA.os, hA.tape, hA.output, hA.size, fun b hb ho => hA.own b hb (hown ho), hA.keep, hA.fkeep⟩⟩
 ·simp only [Zaj, List.getElem?_map, Option.map_eq_some_iff] at hv
  obtain ⟨u, hu, rfl⟩ := hv
  split
  ·rename_i hun; exact (h.env.2 t u hu).cut hun
  ·exact .und
 ·obtain ⟨hlt, ho'⟩ := hlive ho
  obtain ⟨ob, h1, h2⟩ := h.inv.obj o loc g ho'
  refine ⟨ob, by rw [List.getElem?_take, if_pos hlt]; exact h1, ?_⟩
  exact h2.cutTo (hobs o ob hlt h1)
 ·have : o < n := by
   unfold Zb9 at ho
   split at ho
   ·assumption
   ·exact absurd rfl ho
  rw [List.length_take]; omega
 ·unfold Zb9 at ho
  split at ho
  ·rw [List.getElem?_take, if_pos (by assumption)]; exact h.inv.dd o ho
  ·simp at ho
 ·rw [List.length_take] at ho
  have : o < n := by omega
  simp only [Zb9, if_pos this]
  exact h.full o (by omega)
 ·refine ⟨by rw [List.length_take]; have := hlv l hl; omega, fun o ob ho hob => ?_⟩
  rw [List.getElem?_take] at hob
  split at hob
  ·exact (h.lv l (by simp [hl])).2 o ob ho hob
  ·simp at hob
 ·unfold Zb9
  split
  ·exact hA.evo o
  ·rename_i hge
   cases hL : L0 o with
   | un => trivial
   | dead => exact absurd (hL0 o (by rw [hL]; simp)) hge
   | live _ _ => exact absurd (hL0 o (by rw [hL]; simp)) hge

end
end Go.Abs
/- The abstract machine is sound: regions that run in any order. -/
namespace Go.Abs
open Go
variable [Inhabited Glob] [Lps]

def Zaq (cw : Zz) (lv : List Nat) (op : AOp) (e : Env) (σ : Sto) (v : AVal) (σ' : Sto) : Prop :=
 match op with
 | .call p f args => cw p f (args.map (ev e)) lv σ fun v' σ'' => v' = v ∧ σ'' = σ'
 | .callv p x args =>
  match ev e x with
  | .clo (.func f) first captured => cw p f (first ++ args.map (ev e) ++ captured) lv σ fun v' σ'' => v' = v ∧ σ'' = σ'
  | .yld l => p = false ∧ cw false Zag (.yld l :: args.map (ev e)) lv σ fun v' σ'' => v' = v ∧ σ'' = σ'
  | _ => False
 | op => Zc lv op e σ = some (v, σ')

theorem Zmj {cw : Zz} (hD : Det cw) {lv : List Nat} {o : AOper} {e : Env} {σ : Sto} {K : Env → Sto → Prop} (h : ZZ cw lv o e σ K) : ∃ v σ', Zaq cw lv o.op e σ v σ' ∧ K (put e o.dst v) σ' := by
 unfold ZZ at h
 split at h
 ·rename_i p f args hop
  obtain ⟨v, σ', h1, h2⟩ := hD _ _ _ _ _ _ h
  exact ⟨v, σ', by rw [hop]; exact h2 ⟨rfl, rfl⟩, h1⟩
 ·rename_i p x args hop
  split at h
  ·rename_i f first captured hx
   obtain ⟨v, σ', h1, h2⟩ := hD _ _ _ _ _ _ h
   exact ⟨v, σ', by rw [hop]; simp only [Zaq, hx]; exact h2 ⟨rfl, rfl⟩, h1⟩
  ·rename_i l hx
   obtain ⟨v, σ', h1, h2⟩ := hD _ _ _ _ _ _ h.2
   exact ⟨v, σ', by rw [hop]; simp only [Zaq, hx]; exact ⟨h.1, h2 ⟨rfl, rfl⟩⟩, h1⟩
  ·exact h.elim
 ·rename_i op h1 h2
  split at h
  ·rename_i v σ' hs
   refine ⟨v, σ', ?_, h⟩
   unfold Zaq
   split
   ·rename_i hop; exact absurd hop (h1 _ _ _)
   ·rename_i hop; exact absurd hop (h2 _ _ _)
   ·exact hs
  ·exact h.elim

theorem ZbO {cw : Zz} {lv : List Nat} {op : AOp} {e : Env} {σ σ' : Sto} {v : AVal} (h : Zaq cw lv op e σ v σ') : op ≠ .unsup := by
 intro hu; subst hu; simp [Zaq, Zc] at h

def ZhM (cw : Zz) (lv : List Nat) (ao : AOper) (e : Env) (σ : Sto) (e' : Env) (σ' : Sto) : Prop :=
 (ZN ao e = some false ∧ e' = put e ao.dst ZaY ∧ σ' = σ) ∨ (ZN ao e = some true ∧ ∃ v, e' = put e ao.dst v ∧ Zaq cw lv ao.op e σ v σ')

theorem ZgK {cw : Zz} (hD : Det cw) {lv : List Nat} : ∀ (aos : List AOper) {e : Env} {σ : Sto} {K : Env → Sto → Prop}, Zu cw lv aos e σ K →
  ∃ (es : Nat → Env) (ss : Nat → Sto), es 0 = e ∧ ss 0 = σ ∧ (∀ (i : Nat) (ao : AOper), aos[i]? = some ao → ZhM cw lv ao (es i) (ss i) (es (i + 1)) (ss (i + 1))) ∧ K (es aos.length) (ss aos.length)
 | [], e, σ, K, h => ⟨fun _ => e, fun _ => σ, rfl, rfl, fun i ao h => by simp at h, h⟩
 | o :: os, e, σ, K, h => by
  simp only [Zu] at h
  have go : ∀ (e1 : Env) (σ1 : Sto), ZhM cw lv o e σ e1 σ1 → Zu cw lv os e1 σ1 K → (∃ (es : Nat → Env) (ss : Nat → Sto), es 0 = e ∧ ss 0 = σ ∧ (∀ (i : Nat) (ao : AOper), (o :: os)[i]? = some ao → ZhM cw lv ao (es i) (ss i) (es (i + 1)) (ss (i + 1))) ∧ K (es (o :: os).length) (ss (o :: os).length)) := fun e1 σ1 h1 h2 => by
   obtain ⟨es, ss, g1, g2, g3, g4⟩ := ZgK hD os h2
   refine ⟨fun i => match i with | 0 => e | i + 1 => es i, fun i => match i with | 0 => σ | i + 1 => ss i, rfl, rfl, fun i ao hi => ?_, g4⟩
   cases i with
   | zero => simp at hi; subst hi; simp only [g1, g2]; exact h1
   | succ i => exact g3 i ao (by simpa using hi)
  split at h
  ·rename_i hw
   obtain ⟨v, σ1, h1, h2⟩ := Zmj hD h
   exact go _ _ (.inr ⟨hw, v, rfl, h1⟩) h2
  ·rename_i hw
   exact go _ _ (.inl ⟨hw, rfl, rfl⟩) h
  ·exact h.elim

theorem ZoI {lv : List Nat} {op : AOp} {e : Env} {σ σ' : Sto} {v : AVal} (hr : op.isReg = true) (hs : Zc lv op e σ = some (v, σ')) : σ' = σ ∧ Zc lv op e [] = some (v, []) := by
 cases op <;> simp only [AOp.isReg, reduceCtorEq, Bool.false_eq_true] at hr <;> simp only [Zc] at hs ⊢
 case flist =>
  simp only [Option.bind_eq_some_iff] at hs ⊢
  obtain ⟨cs, h1, h2⟩ := hs
  split at h2
  ·rename_i hc
   obtain ⟨rfl, rfl⟩ := Prod.mk.inj (Option.some.inj h2)
   exact ⟨rfl, cs, h1, by rw [if_pos hc]⟩
  ·simp at h2
 case mkslF =>
  split at hs
  case h_2 => simp at hs
  rename_i h1 h2
  split at hs
  case isFalse => simp at hs
  rename_i hc
  obtain ⟨rfl, rfl⟩ := Prod.mk.inj (Option.some.inj hs)
  refine ⟨rfl, ?_⟩
  first | (rw [if_pos hc]; done) | (simp only [h1, h2]; rw [if_pos hc]; done) | (simp_all; done)
 all_goals (repeat' split at hs)
 all_goals first
  | (simp at hs; done)
  | (simp only [Option.some.injEq, Prod.mk.injEq] at hs; obtain ⟨rfl, rfl⟩ := hs; simp_all; done)
  | (simp only [Option.map_eq_some_iff] at hs; obtain ⟨a, ha, he⟩ := hs; obtain ⟨rfl, rfl⟩ := Prod.mk.inj he; exact ⟨rfl, by simp_all⟩)

section
variable {P : Program} {bs : Nat} {rd : Option Nat}

theorem AOp.strip_notCall {op : AOp} (h1 : ∀ p f args, op ≠ .call p f args) (h2 : ∀ p x args, op ≠ .callv p x args) (h3 : ∀ k l z ps, op ≠ .flist k l z ps) (h4 : ∀ k l z ps, op ≠ .appendF k l z ps) (h5 : ∀ z i k, op ≠ .allocn z i k) (h6 : ∀ k b z l c, op ≠ .mkslF k b z l c) : op.strip = op ∧ op.isCall = false := by
 cases op <;> first | exact ⟨rfl, rfl⟩ | exact absurd rfl (h1 _ _ _) | exact absurd rfl (h2 _ _ _) | exact absurd rfl (h3 _ _ _ _) | exact absurd rfl (h4 _ _ _ _) | exact absurd rfl (h5 _ _ _) | exact absurd rfl (h6 _ _ _ _ _)
theorem AOp.notCall {op : AOp} (h1 : ∀ p f args, op ≠ .call p f args) (h2 : ∀ p x args, op ≠ .callv p x args) : op.isCall = false := by
 cases op <;> first | rfl | exact absurd rfl (h1 _ _ _) | exact absurd rfl (h2 _ _ _)

theorem Ziy {cw : Zz} (hP : Z7 P cw) {lv : List Nat} {op : AOp} {o : Oper} (hc : cOp P o = some op.strip) (hw : op.isW = false) {e : Env} {σ σ' : Sto} {v : AVal} (h : Zaq cw lv op e σ v σ') :
  ∃ new, σ' = σ ++ new ∧ (op.isReg = true → new = []) ∧ ∀ {F : Frz} {L : Lay} {σs : Sto} {a : Act} {w : World}, Inv F L σs w → (op.isReg = true ∨ Watch L σ new σs) → (∀ x ∈ o.op.operands.toList, Zaf F L e a.eval x) →
   ∀ {next : Act → World → Prop} {Q : Exit → Act → World → Prop}, (∀ cv F' L' w', VRel F' L' v cv → Inv F' L' σs w' → Adv F L w F' L' w' → (∀ i, L' i ≠ .un ↔ L i ≠ .un ∨ ZT σ.length new.length i) → next (a.put o.dst cv) w') → o.wpIn (Fr rd) 0 P a w next Q := by
 unfold Zaq at h
 split at h
 ·rename_i p f args
  obtain rfl : p = true := by simpa [AOp.isW] using hw
  obtain ⟨c, ho, hcal, hargs, hfy⟩ := Zgl (P := P) (p := true) hc rfl
  have hnd : ∀ c, o.op ≠ .defer c := fun c h => by rw [ho] at h; cases h
  obtain ⟨v', ⟨rfl, rfl⟩, hfn, hcalls⟩ := hP h
  refine ⟨[], by simp, fun _ => rfl, fun {F L σs a w} hI hwt hr next Q hK => ?_⟩
  have har : ZK F L (args.map (ev e)) (c.args.map a.eval) := Za2 hargs fun x hx => hr x (by simp [ho, Op.operands, Call.operands, hcal, hx])
  have hev : a.eval (.func f) = .func (.func f) #[] #[] := rfl
  have hex := Zba ho hcal hev hfn (w := w)
  have e1 : (#[] : Array Value) ++ c.args.map a.eval ++ #[] = c.args.map a.eval := by simp
  rw [e1] at hex
  exact ZaK hnd hex ((hcalls har hI (hwt.resolve_left (by simp [AOp.isReg])).pre).mono fun e w' ⟨cv, F', he, hv, hI, hA⟩ =>
   ⟨cv, he, hK _ _ _ _ hv hI hA fun i => ⟨.inl, fun h => h.resolve_right (Zd _ _)⟩⟩)
 ·rename_i p x args
  obtain rfl : p = true := by simpa [AOp.isW] using hw
  split at h
  case h_3 => exact h.elim
  case h_2 => simp at h
  rename_i f first captured hx
  obtain ⟨c, y, ho, hcal, hy, hargs⟩ := Zfo (P := P) hc
  have hnd : ∀ c, o.op ≠ .defer c := fun c h => by rw [ho] at h; cases h
  obtain ⟨v', ⟨rfl, rfl⟩, hfn, hcalls⟩ := hP h
  refine ⟨[], by simp, fun _ => rfl, fun {F L σs a w} hI hwt hr next Q hK => ?_⟩
  have har : ZK F L (args.map (ev e)) (c.args.map a.eval) := Za2 hargs fun x hx => hr x (by simp [ho, Op.operands, Call.operands, hcal, hx])
  have hyr := hr y (by simp [ho, Op.operands, Call.operands, hcal]) x hy
  rw [hx] at hyr
  obtain ⟨fa, ca, hev, h1, h2, hfy⟩ : ∃ fa ca, a.eval y = .func (.func f) fa ca ∧ ZK F L first fa ∧ ZK F L captured ca ∧ ZeJ (.func f) = true := by
   generalize a.eval y = q at hyr
   cases hyr with
   | clo hfl hcl hf hcc hy => exact ⟨_, _, rfl, ⟨hfl, hf⟩, ⟨hcl, hcc⟩, hy⟩
  have hex := Zba ho hcal hev hfn (w := w)
  exact ZaK hnd hex ((hcalls ((h1.append har).append h2) hI (hwt.resolve_left (by simp [AOp.isReg])).pre).mono fun e w' ⟨cv, F', he, hv, hI, hA⟩ =>
   ⟨cv, he, hK _ _ _ _ hv hI hA fun i => ⟨.inl, fun h => h.resolve_right (Zd _ _)⟩⟩)
 ·rename_i h1 h2
  by_cases hfl : ∃ k len z ps, op = .flist k len z ps
  ·obtain ⟨k, len, z, ps, rfl⟩ := hfl
   obtain ⟨rfl, hrun⟩ := ZhD hc h
   refine ⟨[], by simp, fun _ => rfl, fun {F L σs a w} hI hwt hr next Q hK => ?_⟩
   obtain ⟨cv, w', F', L', h1, hv, hI', hA, hids⟩ := hrun hI (ZaQ a) hr
   exact Zbp (Zar hc) h1 (hK _ _ _ _ hv hI' hA fun i => (hids i).trans ⟨.inl, fun h => h.resolve_right (Zd _ _)⟩)
  by_cases hmk : ∃ k b z l c, op = .mkslF k b z l c
  ·obtain ⟨k, b, z, l, c, rfl⟩ := hmk
   obtain ⟨rfl, hrun⟩ := ZhE hc h
   refine ⟨[], by simp, fun _ => rfl, fun {F L σs a w} hI hwt hr next Q hK => ?_⟩
   obtain ⟨cv, w', F', L', h1, hv, hI', hA, hids⟩ := hrun hI (ZaQ a) hr
   exact Zbp (Zar hc) h1 (hK _ _ _ _ hv hI' hA fun i => (hids i).trans ⟨.inl, fun h => h.resolve_right (Zd _ _)⟩)
  obtain ⟨hst, hnc⟩ := AOp.strip_notCall h1 h2 (fun k l z ps e => hfl ⟨k, l, z, ps, e⟩) (fun k l z ps e => by rw [e] at hw; simp [AOp.isW, AOp.isQ] at hw) (fun z i k e => by rw [e] at hw; simp [AOp.isW, AOp.isQ] at hw) (fun k b z l c e => hmk ⟨k, b, z, l, c, e⟩)
  rw [hst] at hc
  have hq : op.isQ = true := by
   cases op <;> first | rfl | exact absurd rfl (h1 _ _ _) | exact absurd rfl (h2 _ _ _) | simp [AOp.isW, AOp.isQ] at hw
  by_cases hreg : op.isReg = true
  ·obtain ⟨rfl, hs0⟩ := ZoI hreg h
   refine ⟨[], by simp, fun _ => rfl, fun {F L σs a w} hI hwt hr next Q hK => ?_⟩
   obtain ⟨new, he, hqo⟩ := Zgr (F := F) hc hq hs0
   obtain rfl : new = [] := by simpa using he.symm
   obtain ⟨cv, w', L', hrun, hv, hI', hA, hid⟩ := hqo hI ⟨fun i hi => by simp at hi, fun i ob hi => by simp at hi⟩ (ZaQ a) hr
   exact Zbp (Zar hc) hrun (hK _ _ _ _ hv hI' hA fun i => (hid i).trans ⟨fun h => h.imp id fun h => absurd h (Zd _ _), fun h => h.imp id fun h => absurd h (Zd _ _)⟩)
  ·obtain ⟨new, he, _⟩ := Zgr (F := ⟨fun _ _ => none, fun _ => none⟩) hc hq h
   refine ⟨new, he, fun h => absurd h hreg, fun {F L σs a w} hI hwt hr next Q hK => ?_⟩
   obtain ⟨new', he', hqo⟩ := Zgr (F := F) hc hq h
   obtain rfl : new = new' := List.append_cancel_left (he.symm.trans he')
   obtain ⟨cv, w', L', hrun, hv, hI', hA, hid⟩ := hqo hI (hwt.resolve_left hreg) (ZaQ a) hr
   exact Zbp (Zar hc) hrun (hK _ _ _ _ hv hI' hA hid)

theorem Zrw {cw : Zz} (hC : CallsOk P cw) (hP : Z7 P cw) {lv : List Nat} {op : AOp} {o : Oper} (hc : cOp P o = some op.strip) {e : Env} {σ σ' : Sto} {v : AVal} (h : Zaq cw lv op e σ v σ')
  {F : Frz} {L : Lay} {a : Act} {w : World} (hI : Inv F L σ w) (hF : ZbN L σ) (hl : ZaH lv σ) (hr : ∀ x ∈ o.op.operands.toList, Zaf F L e a.eval x)
  {next : Act → World → Prop} {Q : Exit → Act → World → Prop} (hK : ∀ cv F' L' w', VRel F' L' v cv → Inv F' L' σ' w' → ZbN L' σ' → ZaH lv σ' → Adv F L w F' L' w' → next (a.put o.dst cv) w') : o.wpIn (Fr rd) 0 P a w next Q := by
 unfold Zaq at h
 split at h
 ·rename_i p f args
  obtain ⟨c, ho, hcal, hargs, hfy⟩ := Zgl (P := P) (p := true) hc rfl
  have hnd : ∀ c, o.op ≠ .defer c := fun c h => by rw [ho] at h; cases h
  have har : ZK F L (args.map (ev e)) (c.args.map a.eval) := Za2 hargs fun x hx => hr x (by simp [ho, Op.operands, Call.operands, hcal, hx])
  have hev : a.eval (.func f) = .func (.func f) #[] #[] := rfl
  have e1 : (#[] : Array Value) ++ c.args.map a.eval ++ #[] = c.args.map a.eval := by simp
  cases p with
  | false =>
   obtain ⟨hfn, hcalls⟩ := hC.calls h hfy har hI hF hl
   have hex := Zba ho hcal hev hfn (w := w)
   rw [e1] at hex
   exact ZaK hnd hex (hcalls.mono fun e w' ⟨v, cv, σ', F', L', he, hq, hv, hI, hF, hl, hA⟩ => by
    obtain ⟨rfl, rfl⟩ := hq
    exact ⟨cv, he, hK _ _ _ _ hv hI hF hl hA⟩)
  | true =>
   obtain ⟨v', ⟨rfl, rfl⟩, hfn, hcalls⟩ := hP h
   have hex := Zba ho hcal hev hfn (w := w)
   rw [e1] at hex
   exact ZaK hnd hex ((hcalls har hI fun _ _ => rfl).mono fun e w' ⟨cv, F', he, hv, hI, hA⟩ => ⟨cv, he, hK _ _ _ _ hv hI hF hl hA⟩)
 ·rename_i p x args
  obtain ⟨c, y, ho, hcal, hy, hargs⟩ := Zfo (P := P) hc
  have hnd : ∀ c, o.op ≠ .defer c := fun c h => by rw [ho] at h; cases h
  split at h
  case h_3 => exact h.elim
  case h_2 =>
   rename_i l hx
   have har : ZK F L (args.map (ev e)) (c.args.map a.eval) := Za2 hargs fun x hx => hr x (by simp [ho, Op.operands, Call.operands, hcal, hx])
   have hyr := hr y (by simp [ho, Op.operands, Call.operands, hcal]) x hy
   rw [hx] at hyr
   obtain ⟨r, hev⟩ : ∃ r, a.eval y = .func (.yield r) #[] #[] := by
    generalize a.eval y = q at hyr
    cases hyr with
    | yld h0 h1 h => exact h1
   rw [hev] at hyr
   obtain ⟨R, hw, hsz, hround⟩ := hC.yields h.2 har hyr hI hF hl
   exact ZhF hnd (Zhy ho hcal hev hw hsz) fun rd => (hround rd).mono fun e w' ⟨v, cv, σ', F', L', he, hq, hv, hI, hF, hl, hA⟩ => by
    obtain ⟨rfl, rfl⟩ := hq
    exact ⟨cv, he, hK _ _ _ _ hv hI hF hl hA⟩
  rename_i f first captured hx
  have har : ZK F L (args.map (ev e)) (c.args.map a.eval) := Za2 hargs fun x hx => hr x (by simp [ho, Op.operands, Call.operands, hcal, hx])
  have hyr := hr y (by simp [ho, Op.operands, Call.operands, hcal]) x hy
  rw [hx] at hyr
  obtain ⟨fa, ca, hev, h1, h2, hfy⟩ : ∃ fa ca, a.eval y = .func (.func f) fa ca ∧ ZK F L first fa ∧ ZK F L captured ca ∧ ZeJ (.func f) = true := by
   generalize a.eval y = q at hyr
   cases hyr with
   | clo hfl hcl hf hcc hy => exact ⟨_, _, rfl, ⟨hfl, hf⟩, ⟨hcl, hcc⟩, hy⟩
  have har' := (h1.append har).append h2
  cases p with
  | false =>
   obtain ⟨hfn, hcalls⟩ := hC.calls h hfy har' hI hF hl
   have hex := Zba ho hcal hev hfn (w := w)
   exact ZaK hnd hex (hcalls.mono fun e w' ⟨v, cv, σ', F', L', he, hq, hv, hI, hF, hl, hA⟩ => by
    obtain ⟨rfl, rfl⟩ := hq
    exact ⟨cv, he, hK _ _ _ _ hv hI hF hl hA⟩)
  | true =>
   obtain ⟨v', ⟨rfl, rfl⟩, hfn, hcalls⟩ := hP h
   have hex := Zba ho hcal hev hfn (w := w)
   exact ZaK hnd hex ((hcalls har' hI fun _ _ => rfl).mono fun e w' ⟨cv, F', he, hv, hI, hA⟩ => ⟨cv, he, hK _ _ _ _ hv hI hF hl hA⟩)
 ·rename_i h1 h2
  have hnc := AOp.notCall h1 h2
  rw [Zgj hnc] at hc
  obtain ⟨w', F', L', hres, hI', hA, hids⟩ := Ziw hc hnc h hI (ZaQ a) hr
  have hF' := hids.full hF
  have hl' := Zf7 h hl
  rcases hres with ⟨cv, hrun, hv⟩ | ⟨hrun, rfl⟩
  ·exact Zbp (Zar hc) hrun (hK _ _ _ _ hv hI' hF' hl' hA)
  ·exact ZgC (Zar hc) hrun (hK _ _ _ _ .und hI' hF' hl' hA)


structure RunD (cw : Zz) (lv : List Nat) (aos : List AOper) (es : Nat → Env) (ss : Nat → Sto) : Prop where
 step : ∀ (i : Nat) (ao : AOper), aos[i]? = some ao → ZhM cw lv ao (es i) (ss i) (es (i + 1)) (ss (i + 1))
 ok : DrawBase aos

theorem Zlk (e : Env) (d : Option Nat) (v : AVal) : (put e d v).length = e.length := by cases d <;> simp [put]
theorem Zrx {e : Env} {d : Option Nat} {v : AVal} {t : Nat} (h : d ≠ some t) : (put e d v).getD t .und = e.getD t .und := by
 cases d with
 | none => rfl
 | some d =>
  have : d ≠ t := fun h' => h (by rw [h'])
  simp [put, List.getD_eq_getElem?_getD, List.getElem?_set, this]

theorem ZhM.put {cw : Zz} {lv : List Nat} {ao : AOper} {e e' : Env} {σ σ' : Sto} (h : ZhM cw lv ao e σ e' σ') : ∃ v, e' = Abs.put e ao.dst v := by
 rcases h with ⟨_, h, _⟩ | ⟨_, v, h, _⟩
 ·exact ⟨_, h⟩
 ·exact ⟨_, h⟩

section
variable {cw : Zz} {lv : List Nat} {aos : List AOper} {es : Nat → Env} {ss : Nat → Sto}

theorem RunD.len (h : RunD cw lv aos es ss) : ∀ {i : Nat}, i ≤ aos.length → (es i).length = (es 0).length
 | 0, _ => rfl
 | i + 1, hi => by
  obtain ⟨v, hv⟩ := (h.step i _ (List.getElem?_eq_getElem (by omega))).put
  rw [hv, Zlk]; exact h.len (by omega)

theorem RunD.keep (h : RunD cw lv aos es ss) {t i : Nat} : ∀ {k : Nat}, i + k ≤ aos.length → (∀ (j : Nat) (ao : AOper), i ≤ j → j < i + k → aos[j]? = some ao → ao.dst ≠ some t) → (es (i + k)).getD t .und = (es i).getD t .und
 | 0, _, _ => rfl
 | k + 1, hi, hn => by
  obtain ⟨v, hv⟩ := (h.step (i + k) _ (List.getElem?_eq_getElem (by omega))).put
  rw [← Nat.add_assoc, hv, Zrx (hn (i + k) _ (by omega) (by omega) (List.getElem?_eq_getElem (by omega)))]
  exact h.keep (by omega) fun j ao h1 h2 => hn j ao h1 (by omega)

theorem RunD.after (h : RunD cw lv aos es ss) {t j : Nat} {ao : AOper} (hj : aos[j]? = some ao) (hd : ao.dst = some t) {i : Nat} (h1 : j < i) (h2 : i ≤ aos.length) : (es i).getD t .und = (es aos.length).getD t .und := by
 have key : ∀ {i' : Nat}, j < i' → i' ≤ aos.length → (es i').getD t .und = (es (j + 1)).getD t .und := fun {i'} g1 g2 => by
  have := h.keep (t := t) (i := j + 1) (k := i' - (j + 1)) (by omega) fun j' ao' k1 k2 k3 k4 => by
   have := h.ok.dst j' j ao' ao t k3 hj k4 hd; omega
  rwa [show j + 1 + (i' - (j + 1)) = i' by omega] at this
 rw [key h1 h2, key (by omega) (Nat.le_refl _)]

theorem RunD.first (h : RunD cw lv aos es ss) {t i : Nat} (hi : i ≤ aos.length) (hn : ∀ (j : Nat) (ao : AOper), j < i → aos[j]? = some ao → ao.dst ≠ some t) : (es i).getD t .und = (es 0).getD t .und := by
 have := h.keep (t := t) (i := 0) (k := i) (by omega) fun j ao _ h2 => hn j ao (by omega)
 simpa using this

def Zd7 (aos : List AOper) (listed : Array Bool) (t : Nat) : Prop := ∃ (j : Nat) (ao : AOper), listed.getD j false = true ∧ aos[j]? = some ao ∧ ao.dst = some t

open Classical in
noncomputable def ZcU (aos : List AOper) (es : Nat → Env) (listed : Array Bool) : Env :=
 (List.range (es 0).length).map fun t => if Zd7 aos listed t then (es aos.length).getD t .und else (es 0).getD t .und

theorem Zas {listed : Array Bool} : (ZcU aos es listed).length = (es 0).length := by simp [ZcU]

open Classical in
theorem Zcj {listed : Array Bool} {t : Nat} (ht : t < (es 0).length) : (ZcU aos es listed)[t]? = some (if Zd7 aos listed t then (es aos.length).getD t .und else (es 0).getD t .und) := by
 simp [ZcU, ht]

theorem Za3 {e e' : Env} (hl : e.length = e'.length) {t : Nat} (h : t < e.length → e[t]? = e'[t]?) : e[t]? = e'[t]? := by
 rcases Nat.lt_or_ge t e.length with ht | ht
 ·exact h ht
 ·rw [List.getElem?_eq_none ht, List.getElem?_eq_none (hl ▸ ht)]

theorem Zb1 {e : Env} {t : Nat} (h : t < e.length) : e[t]? = some (e.getD t .und) := by
 rw [List.getD_eq_getElem?_getD, List.getElem?_eq_getElem h]; rfl

structure Closed (aos : List AOper) (listed : Array Bool) : Prop where
 size : listed.size = aos.length
 cl : ∀ (j : Nat) (ao : AOper), aos[j]? = some ao → listed.getD j false = true → ∀ e ∈ ao.after, listed.getD e false = true

theorem Closed.anc {listed : Array Bool} (h : Closed aos listed) (hd : DrawBase aos) {i : Nat} {ao : AOper} (hi : aos[i]? = some ao) (hall : ∀ e ∈ ao.after, listed.getD e false = true) {j : Nat} (hj : ((Zds aos).getD i 0).testBit j = true) :
  listed.getD j false = true :=
 Zje (S := fun j => listed.getD j false = true) h.cl hd.lt i hi hall hj

theorem RunD.reads (h : RunD cw lv aos es ss) {listed : Array Bool} (hc : Closed aos listed) {i : Nat} {ao : AOper} (hi : aos[i]? = some ao) (hun : listed.getD i false = false) (hall : ∀ e ∈ ao.after, listed.getD e false = true)
  {t : Nat} (ht : ao.looks t = true) : (ZcU aos es listed)[t]? = (es i)[t]? := by
 have hil : i < aos.length := (List.getElem?_eq_some_iff.1 hi).1
 refine Za3 (by rw [Zas, h.len (Nat.le_of_lt hil)]) fun hlt => ?_
 rw [Zas] at hlt
 rw [Zcj hlt, Zb1 (by rw [h.len (Nat.le_of_lt hil)]; exact hlt)]
 congr 1
 split
 ·rename_i hw
  obtain ⟨j, aj, h1, h2, h3⟩ := hw
  have hne : i ≠ j := fun he => by subst he; rw [hun] at h1; cases h1
  have hb := h.ok.read i j ao aj t hi h2 hne h3 ht
  unfold ZaR at hb
  split at hb
  ·rename_i hlt'
   exact (h.after h2 h3 hlt' (Nat.le_of_lt hil)).symm
  ·have := hc.anc h.ok h2 (hc.cl j aj h2 h1) hb
   rw [hun] at this; cases this
 ·rename_i hw
  refine (h.first (Nat.le_of_lt hil) fun j aj hj h2 h3 => hw ⟨j, aj, ?_, h2, h3⟩).symm
  have hb := h.ok.read i j ao aj t hi h2 (by omega) h3 ht
  unfold ZaR at hb
  rw [if_pos hj] at hb
  exact hc.anc h.ok hi hall hb

theorem Zd7.set {listed : Array Bool} {i : Nat} {ao : AOper} (hi : aos[i]? = some ao) (hlt : i < listed.size) {t : Nat} : Zd7 aos (listed.setIfInBounds i true) t ↔ ao.dst = some t ∨ Zd7 aos listed t := by
 constructor
 ·rintro ⟨j, aj, h1, h2, h3⟩
  by_cases hij : i = j
  ·subst hij; rw [hi] at h2; obtain rfl := Option.some.inj h2; exact .inl h3
  ·rw [getD_set_ne false hij] at h1; exact .inr ⟨j, aj, h1, h2, h3⟩
 ·rintro (h | ⟨j, aj, h1, h2, h3⟩)
  ·exact ⟨i, ao, by simp [hlt], hi, h⟩
  ·exact ⟨j, aj, getD_set_true h1, h2, h3⟩

theorem RunD.envS_put (h : RunD cw lv aos es ss) {listed : Array Bool} (hs : listed.size = aos.length) {i : Nat} {ao : AOper} (hi : aos[i]? = some ao) {v : AVal} (hv : es (i + 1) = put (es i) ao.dst v) :
  ZcU aos es (listed.setIfInBounds i true) = put (ZcU aos es listed) ao.dst v := by
 have hil : i < aos.length := (List.getElem?_eq_some_iff.1 hi).1
 apply List.ext_getElem?
 intro t
 refine Za3 (by rw [Zlk, Zas, Zas]) fun hlt => ?_
 rw [Zas] at hlt
 rw [Zcj hlt]
 by_cases hd : ao.dst = some t
 ·rw [if_pos ((Zd7.set hi (hs ▸ hil)).2 (.inl hd))]
  have h1 := h.after hi hd (Nat.lt_succ_self i) (Nat.succ_le_of_lt hil)
  rw [← h1, hv, hd]
  have hlt' : t < (es i).length := by rw [h.len (Nat.le_of_lt hil)]; exact hlt
  simp [put, List.getD_eq_getElem?_getD, List.getElem?_set, hlt', Zas, hlt]
 ·have hp : (put (ZcU aos es listed) ao.dst v)[t]? = (ZcU aos es listed)[t]? := by
   cases hdd : ao.dst with
   | none => rfl
   | some d =>
    have : d ≠ t := fun h' => hd (by rw [hdd, h'])
    simp [put, List.getElem?_set, this]
  rw [hp, Zcj hlt]
  have : Zd7 aos (listed.setIfInBounds i true) t ↔ Zd7 aos listed t := (Zd7.set hi (hs ▸ hil)).trans ⟨fun h => h.resolve_left hd, .inr⟩
  by_cases hw : Zd7 aos listed t
  ·rw [if_pos (this.2 hw), if_pos hw]
  ·rw [if_neg (fun h => hw (this.1 h)), if_neg hw]

theorem RunD.grow (h : RunD cw lv aos es ss) {P : Program} {ops : List Oper} (hP : Z7 P cw) (hops : ∀ (i : Nat) (ao : AOper), aos[i]? = some ao → ∃ o, ops[i]? = some o ∧ (cOp P o).getD .unsup = ao.op.strip)
  {i : Nat} : ∀ {k : Nat}, i + k ≤ aos.length → (∀ (j : Nat) (ao : AOper), i ≤ j → j < i + k → aos[j]? = some ao → ao.op.isW = false) → ∃ new, ss (i + k) = ss i ++ new
 | 0, _, _ => ⟨[], by simp⟩
 | k + 1, hi, hn => by
  obtain ⟨new, hnew⟩ := h.grow hP hops (i := i) (k := k) (by omega) fun j ao h1 h2 => hn j ao h1 (by omega)
  have hg : aos[i + k]? = some aos[i + k] := List.getElem?_eq_getElem (by omega)
  rcases h.step (i + k) _ hg with ⟨_, _, hs⟩ | ⟨_, v, _, hs⟩
  ·exact ⟨new, by rw [← Nat.add_assoc, hs, hnew]⟩
  ·obtain ⟨o, _, hc⟩ := hops _ _ hg
   obtain ⟨new', he, _⟩ := Ziy (rd := none) hP (Zdx hc (ZbO hs)) (hn _ _ (by omega) (by omega) hg) hs
   exact ⟨new ++ new', by rw [← Nat.add_assoc, he, hnew, List.append_assoc]⟩

end

structure DInv (bs : Nat) (P : Program) (cw : Zz) (lv : List Nat) (aos : List AOper) (es : Nat → Env) (ss : Nat → Sto) (listed : Array Bool) (m k : Nat) (F : Frz) (L : Lay) (a : Act) (w : World) : Prop where
 cl : Closed aos listed
 le1 : m ≤ k
 le2 : k ≤ aos.length
 noW : ∀ (j : Nat) (ao : AOper), m ≤ j → j < k → aos[j]? = some ao → ao.op.isW = false
 kW : ∀ ao, aos[k]? = some ao → ao.op.isW = true
 pre : ∀ (j : Nat) (ao : AOper), j < m → aos[j]? = some ao → ao.op.isReg = false → listed.getD j false = true
 post : ∀ (j : Nat) (ao : AOper), k ≤ j → aos[j]? = some ao → ao.op.isReg = false → listed.getD j false = false
 env : ZI F L (ZcU aos es listed) a.tmps
 defers : Zau bs w a.defers
 inv : Inv F L (ss k) w
 ids : ∀ o, L o ≠ .un ↔ o < (ss m).length ∨ ∃ j, m ≤ j ∧ j < k ∧ listed.getD j false = true ∧ (ss j).length ≤ o ∧ o < (ss (j + 1)).length
 lv : ZaH lv (ss m)


theorem ZgL {listed : Array Bool} {i : Nat} (h : listed.getD i true = false) : listed.getD i false = false := by
 rcases Nat.lt_or_ge i listed.size with h' | h'
 ·simp [h'] at h ⊢; exact h
 ·simp [Array.getElem?_eq_none h'] at h

structure OpRel (P : Program) (ops : Array Oper) (ao : AOper) (o : Oper) : Prop where
 op : (cOp P o).getD .unsup = ao.op.strip
 dst : ao.dst = o.dst
 guard : ao.guard = o.guard.map fun (j, want) => ((ops[j]?).bind (·.dst), want)
 after : ao.after = (o.after.toList.filter (Region.binds .any)).map (·.on)
 reads : ao.reads = o.op.operands.toList.filterMap ZqM

theorem ZeU {op : AOp} (h : op.isW = true) : op.isReg = false := by
 cases op <;> first | rfl | (simp [AOp.isW, AOp.isQ] at h; done)

theorem ZoJ (aos : List AOper) : ∀ (d m : Nat), m + d = aos.length → ∃ k, m ≤ k ∧ k ≤ aos.length ∧ (∀ (j : Nat) (ao : AOper), m ≤ j → j < k → aos[j]? = some ao → ao.op.isW = false) ∧ ∀ ao, aos[k]? = some ao → ao.op.isW = true
 | 0, m, h => ⟨m, Nat.le_refl _, by omega, fun j ao h1 h2 => by omega, fun ao hao => by have := (List.getElem?_eq_some_iff.1 hao).1; omega⟩
 | d + 1, m, h => by
  by_cases hw : (aos[m]'(by omega)).op.isW = true
  ·exact ⟨m, Nat.le_refl _, by omega, fun j ao h1 h2 => by omega, fun ao hao => by rw [List.getElem?_eq_getElem (by omega)] at hao; obtain rfl := Option.some.inj hao; exact hw⟩
  ·obtain ⟨k, h1, h2, h3, h4⟩ := ZoJ aos d (m + 1) (by omega)
   refine ⟨k, by omega, h2, fun j ao g1 g2 g3 => ?_, h4⟩
   by_cases hj : j = m
   ·subst hj; rw [List.getElem?_eq_getElem (by omega)] at g3; obtain rfl := Option.some.inj g3; simpa using hw
   ·exact h3 j ao (by omega) g2 g3

section
variable {cw : Zz} {lv : List Nat} {aos : List AOper} {es : Nat → Env} {ss : Nat → Sto} {ops : Array Oper}

theorem RunD.reg (h : RunD cw lv aos es ss) (hP : Z7 P cw) (hops : ∀ (i : Nat) (ao : AOper), aos[i]? = some ao → ∃ o, ops.toList[i]? = some o ∧ (cOp P o).getD .unsup = ao.op.strip) {i : Nat} {ao : AOper} (hi : aos[i]? = some ao) (hr : ao.op.isReg = true) : ss (i + 1) = ss i := by
 rcases h.step i _ hi with ⟨_, _, hs⟩ | ⟨_, v, _, hs⟩
 ·exact hs
 ·obtain ⟨o, _, hc⟩ := hops _ _ hi
  have hw : ao.op.isW = false := by
   cases hw : ao.op.isW with
   | false => rfl
   | true => rw [ZeU hw] at hr; cases hr
  obtain ⟨new', he, hn, _⟩ := Ziy (rd := none) hP (Zdx hc (ZbO hs)) hw hs
  rw [he, hn hr, List.append_nil]

theorem DInv.grow {listed : Array Bool} {m k : Nat} {F : Frz} {L : Lay} {a : Act} {w : World} (h : DInv bs P cw lv aos es ss listed m k F L a w) (hR : RunD cw lv aos es ss) (hP : Z7 P cw)
  (hops : ∀ (i : Nat) (ao : AOper), aos[i]? = some ao → ∃ o, ops.toList[i]? = some o ∧ (cOp P o).getD .unsup = ao.op.strip) {x y : Nat} (h1 : m ≤ x) (h2 : x ≤ y) (h3 : y ≤ k) : ∃ new, ss y = ss x ++ new := by
 have := hR.grow (k := y - x) hP hops (i := x) (by have := h.le2; omega) fun j ao g1 g2 g3 => h.noW j ao (by omega) (by omega) g3
 rwa [show x + (y - x) = y by omega] at this

theorem Ziz {a b n : Sto} (h : a = b ++ n) : b.length ≤ a.length := by rw [h]; simp

theorem DInv.finishQ {listed : Array Bool} {m k : Nat} {F : Frz} {L : Lay} {a : Act} {w : World} (h : DInv bs P cw lv aos es ss listed m k F L a w) {i : Nat} {ao : AOper} (hi : aos[i]? = some ao) (hall : ∀ e ∈ ao.after, listed.getD e false = true)
  (hpos : m ≤ i ∧ i < k ∨ ss (i + 1) = ss i) (hnw : ao.op.isReg = false → i < k) {F' : Frz} {L' : Lay} {a' : Act} {w' : World} (henv : ZI F' L' (ZcU aos es (listed.setIfInBounds i true)) a'.tmps) (hd : Zau bs w' a'.defers)
  (hI : Inv F' L' (ss k) w') (hid : ∀ o, L' o ≠ .un ↔ L o ≠ .un ∨ ((ss i).length ≤ o ∧ o < (ss (i + 1)).length)) : DInv bs P cw lv aos es ss (listed.setIfInBounds i true) m k F' L' a' w' := by
 have hil : i < aos.length := (List.getElem?_eq_some_iff.1 hi).1
 have hset : ∀ j, (listed.setIfInBounds i true).getD j false = true ↔ j = i ∨ listed.getD j false = true := by
  intro j
  by_cases hj : i = j
  ·subst hj; simp [h.cl.size, hil]
  ·rw [getD_set_ne false hj]; constructor
   ·exact .inr
   ·intro g; exact g.resolve_left (fun e => hj e.symm)
 refine ⟨⟨by simp [h.cl.size], fun j aj hj hl e he => ?_⟩, h.le1, h.le2, h.noW, h.kW, fun j aj hj haj hr => (hset j).2 (.inr (h.pre j aj hj haj hr)), fun j aj hj haj hr => ?_, henv, hd, hI, fun o => ?_, h.lv⟩
 ·rcases (hset j).1 hl with rfl | hl
  ·rw [hi] at hj; obtain rfl := Option.some.inj hj
   exact (hset e).2 (.inr (hall e he))
  ·exact (hset e).2 (.inr (h.cl.cl j aj hj hl e he))
 ·have hne : i ≠ j := fun e => by subst e; rw [hi] at haj; obtain rfl := Option.some.inj haj; have := hnw hr; omega
  rw [getD_set_ne false hne]; exact h.post j aj hj haj hr
 ·rw [hid, h.ids]
  constructor
  ·rintro ((h1 | ⟨j, h1, h2, h3, h4⟩) | h1)
   ·exact .inl h1
   ·exact .inr ⟨j, h1, h2, (hset j).2 (.inr h3), h4⟩
   ·rcases hpos with hp | hp
    ·exact .inr ⟨i, hp.1, hp.2, (hset i).2 (.inl rfl), h1⟩
    ·rw [hp] at h1; omega
  ·rintro (h1 | ⟨j, h1, h2, h3, h4⟩)
   ·exact .inl (.inl h1)
   ·rcases (hset j).1 h3 with rfl | h3
    ·exact .inr h4
    ·exact .inl (.inr ⟨j, h1, h2, h3, h4⟩)

theorem DInv.finishW {listed : Array Bool} {m : Nat} {F : Frz} {L : Lay} {a : Act} {w : World} {i : Nat} (h : DInv bs P cw lv aos es ss listed m i F L a w) (hR : RunD cw lv aos es ss) (hP : Z7 P cw)
  (hops : ∀ (i : Nat) (ao : AOper), aos[i]? = some ao → ∃ o, ops.toList[i]? = some o ∧ (cOp P o).getD .unsup = ao.op.strip) {ao : AOper} (hi : aos[i]? = some ao) (hall : ∀ e ∈ ao.after, listed.getD e false = true)
  (hbef : ∀ (j : Nat) (aj : AOper), j < i → aos[j]? = some aj → aj.op.isReg = false → listed.getD j false = true) {F' : Frz} {L' : Lay} {a' : Act} {w' : World} (henv : ZI F' L' (ZcU aos es (listed.setIfInBounds i true)) a'.tmps) (hd : Zau bs w' a'.defers)
  (hI : Inv F' L' (ss (i + 1)) w') (hF : ZbN L' (ss (i + 1))) (hl : ZaH lv (ss (i + 1))) : ∃ k, DInv bs P cw lv aos es ss (listed.setIfInBounds i true) (i + 1) k F' L' a' w' := by
 have hil : i < aos.length := (List.getElem?_eq_some_iff.1 hi).1
 have hset : ∀ j, (listed.setIfInBounds i true).getD j false = true ↔ j = i ∨ listed.getD j false = true := by
  intro j
  by_cases hj : i = j
  ·subst hj; simp [h.cl.size, hil]
  ·rw [getD_set_ne false hj]; constructor
   ·exact .inr
   ·intro g; exact g.resolve_left (fun e => hj e.symm)
 obtain ⟨k, k1, k2, k3, k4⟩ := ZoJ aos (aos.length - (i + 1)) (i + 1) (by omega)
 obtain ⟨new, hnew⟩ := hR.grow (k := k - (i + 1)) hP hops (i := i + 1) (by omega) fun j aj g1 g2 g3 => k3 j aj (by omega) (by omega) g3
 rw [show i + 1 + (k - (i + 1)) = k by omega] at hnew
 refine ⟨k, ⟨by simp [h.cl.size], fun j aj hj hl e he => ?_⟩, k1, k2, k3, k4, fun j aj hj haj hr => ?_, fun j aj hj haj hr => ?_, henv, hd, ?_, fun o => ?_, hl⟩
 ·rcases (hset j).1 hl with rfl | hl
  ·rw [hi] at hj; obtain rfl := Option.some.inj hj
   exact (hset e).2 (.inr (hall e he))
  ·exact (hset e).2 (.inr (h.cl.cl j aj hj hl e he))
 ·rcases Nat.lt_succ_iff_lt_or_eq.1 hj with hj | rfl
  ·exact (hset j).2 (.inr (hbef j aj hj haj hr))
  ·exact (hset j).2 (.inl rfl)
 ·rw [getD_set_ne false (by omega)]; exact h.post j aj (by omega) haj hr
 ·rw [hnew]; exact hI.extend (fun x hx => List.getElem?_append_left hx) (by simp)
 ·constructor
  ·intro ho; exact .inl (hI.lt o ho)
  ·rintro (h1 | ⟨j, h1, h2, h3, h4⟩)
   ·exact hF o h1
   ·exfalso
    have hjl : j < aos.length := by omega
    have hja := List.getElem?_eq_getElem hjl
    cases hr : aos[j].op.isReg with
    | true => have := hR.reg hP hops hja hr; rw [this] at h4; omega
    | false =>
     rcases (hset j).1 h3 with rfl | h3
     ·omega
     ·have := h.post j _ (by omega) hja hr
      rw [this] at h3; cases h3


theorem ZfN {e e' : Env} {ao : AOper} (h : ∀ t, ao.looks t = true → e'[t]? = e[t]?) : ZN ao e' = ZN ao e := by
 unfold ZN
 cases hg : ao.guard with
 | none => rfl
 | some g =>
  obtain ⟨t, want⟩ := g
  cases t with
  | none => rfl
  | some t =>
   have := h t (by simp [AOper.looks, hg])
   simp only [Option.bind_some, this]

theorem DInv.step {listed : Array Bool} {m k : Nat} {F : Frz} {L : Lay} {a : Act} {w : World} (h : DInv bs P cw lv aos es ss listed m k F L a w) (hR : RunD cw lv aos es ss) (hW : DrawOk aos) (hC : CallsOk P cw) (hP : Z7 P cw)
  (hops : ∀ (i : Nat) (ao : AOper), aos[i]? = some ao → ∃ o, ops[i]? = some o ∧ OpRel P ops ao o) {i : Nat} (hi : i ∈ Region.ready .any ops listed) (hsz : ops.size = aos.length)
  {next : Act → World → Prop} {Q : Exit → Act → World → Prop} (hK : ∀ m' k' F' L' a' w', DInv bs P cw lv aos es ss (listed.setIfInBounds i true) m' k' F' L' a' w' → Adv F L w F' L' w' → next a' w') : wpOpIn (Fr rd) 0 P ops Q i next a w := by
 obtain ⟨hun', o, ho, hbind⟩ := mem_ready.1 hi
 have hun := ZgL hun'
 have hil : i < aos.length := by rw [← hsz]; exact (Array.getElem?_eq_some_iff.1 ho).1
 have hao := List.getElem?_eq_getElem hil
 generalize aos[i] = ao at hao
 obtain ⟨o', ho', hrel⟩ := hops i ao hao
 obtain rfl : o = o' := Option.some.inj (ho.symm.trans ho')
 have hall : ∀ e ∈ ao.after, listed.getD e false = true := by
  intro e he
  rw [hrel.after] at he
  simp only [List.mem_map, List.mem_filter, Array.mem_toList_iff] at he
  obtain ⟨x, ⟨h1, h2⟩, rfl⟩ := he
  exact hbind x h1 h2
 have hops' : ∀ (i : Nat) (ao : AOper), aos[i]? = some ao → ∃ o, ops.toList[i]? = some o ∧ (cOp P o).getD .unsup = ao.op.strip := fun i ao hi => by
  obtain ⟨o, h1, h2⟩ := hops i ao hi
  exact ⟨o, by simpa using h1, h2.op⟩
 have hbk : ∀ {j : Nat}, ((Zds aos).getD i 0).testBit j = true → listed.getD j false = true := fun hj => h.cl.anc hR.ok hao hall hj
 -- where it stands
 have hik : ao.op.isReg = false → i ≤ k := fun hr => by
  apply Classical.byContradiction
  intro hc
  have hlt : k < i := by omega
  have hk := List.getElem?_eq_getElem (show k < aos.length by omega)
  have hw := h.kW _ hk
  have hb := hW.wr k i _ ao hk hao (by omega) hw hr
  unfold ZaR at hb
  rw [if_neg (by omega)] at hb
  have := h.post k _ (Nat.le_refl _) hk (ZeU hw)
  rw [hbk hb] at this; cases this
 have hmi : ao.op.isReg = false → m ≤ i := fun hr => by
  apply Classical.byContradiction
  intro hc
  have := h.pre i ao (by omega) hao hr
  rw [hun] at this; cases this
 -- what it reads
 have hrd := fun t ht => hR.reads h.cl hao hun hall (t := t) ht
 have hreads : ∀ x ∈ o.op.operands.toList, Zaf F L (es i) a.eval x := by
  intro x hx y hy
  cases x with
  | tmp t =>
   simp only [ZR, Option.some.injEq] at hy
   subst hy
   have ht : ao.looks t = true := by
    have : t ∈ ao.reads := by rw [hrel.reads]; exact List.mem_filterMap.2 ⟨_, hx, rfl⟩
    simp [AOper.looks, this]
   have := h.env.reads h.inv.gl (a := a) (.tmp t) (.tmp t) rfl
   simp only [ev, List.getD_eq_getElem?_getD, hrd t ht] at this ⊢
   exact this
  | const v =>
   have := h.env.reads h.inv.gl (a := a) _ y hy
   simp only [ZR, Option.map_eq_some_iff] at hy
   obtain ⟨z, _, rfl⟩ := hy
   exact this
  | func f =>
   have := h.env.reads h.inv.gl (a := a) _ y hy
   simp only [ZR] at hy
   split at hy
   ·simp only [Option.some.injEq] at hy
    subst hy
    exact this
   ·simp at hy
  | global g =>
   have := h.env.reads h.inv.gl (a := a) _ y hy
   simp only [ZR, Option.map_eq_some_iff] at hy
   obtain ⟨z, _, rfl⟩ := hy
   exact this
 have hwant : ∀ b, ZN ao (es i) = some b → Region.wanted o (yielded ops a.tmps) = b := fun b hb =>
  ZaZ h.env hrel.guard (by rw [ZfN hrd]; exact hb)
 have hbef : i = k → ∀ (j : Nat) (aj : AOper), j < i → aos[j]? = some aj → aj.op.isReg = false → listed.getD j false = true := fun he j aj hj haj hr => by
  have hb := hW.wr i j ao aj hao haj (by omega) (h.kW ao (he ▸ hao)) hr
  unfold ZaR at hb
  rw [if_pos hj] at hb
  exact hbk hb
 have hfull : i = k → ZbN L (ss k) := fun he o ho => by
  rw [h.ids]
  rcases Nat.lt_or_ge o (ss m).length with hlt | hge
  ·exact .inl hlt
  ·right
   -- the first place at which the object is there
   have key : ∀ (d : Nat), m + d ≤ k → o < (ss (m + d)).length → ∃ j, m ≤ j ∧ j < k ∧ (ss j).length ≤ o ∧ o < (ss (j + 1)).length := by
    intro d
    induction d with
    | zero => intro _ h2; exact absurd h2 (by simpa using hge)
    | succ d ih =>
     intro h1 h2
     rcases Nat.lt_or_ge o (ss (m + d)).length with h3 | h3
     ·exact ih (by omega) h3
     ·exact ⟨m + d, by omega, by omega, h3, h2⟩
   obtain ⟨j, j1, j2, j3, j4⟩ := key (k - m) (by have := h.le1; omega) (by rw [show m + (k - m) = k by have := h.le1; omega]; exact ho)
   have hja := List.getElem?_eq_getElem (show j < aos.length by omega)
   refine ⟨j, j1, j2, ?_, j3, j4⟩
   cases hr : aos[j].op.isReg with
   | true => have := hR.reg hP hops' hja hr; rw [this] at j4; omega
   | false => exact hbef he j _ (by omega) hja hr
 have hlvk : ZaH lv (ss k) := by
  obtain ⟨new, hn⟩ := h.grow hR hP hops' (Nat.le_refl m) h.le1 (Nat.le_refl k)
  rw [hn]; exact h.lv.append new
 have hdef : ∀ {F' : Frz} {L' : Lay} {w' : World}, Adv F L w F' L' w' → ∀ cv, Zau bs w' (a.put o.dst cv).defers := fun hA cv => by rw [Act.put_defers]; exact h.defers.adv h.inv hA
 have hput : ∀ {v : AVal} {cv : Value} {F' : Frz} {L' : Lay} {w' : World}, es (i + 1) = put (es i) ao.dst v → VRel F' L' v cv → Adv F L w F' L' w' → ZI F' L' (ZcU aos es (listed.setIfInBounds i true)) (a.put o.dst cv).tmps := fun {v cv F' L' w'} he hv hA => by
  rw [hR.envS_put h.cl.size hao he, hrel.dst]
  exact (h.env.mono hA.frz hA.evo).put hv
 unfold wpOpIn
 simp only [ho]
 rcases hR.step i ao hao with ⟨hw, he, hs⟩ | ⟨hw, v, he, hs⟩
 ·rw [if_neg (by rw [hwant _ hw]; simp)]
  refine ⟨fun _ _ => trivial, ?_⟩
  by_cases hisk : i = k
  ·subst hisk
   obtain ⟨k', hD⟩ := h.finishW hR hP hops' hao hall (hbef rfl) (hput he Zb0 (Adv.refl F L w)) (hdef (Adv.refl F L w) undef) (hs ▸ h.inv) (hs ▸ hfull rfl) (hs ▸ hlvk)
   exact hK _ _ _ _ _ _ hD (Adv.refl F L w)
  ·exact hK _ _ _ _ _ _ (h.finishQ hao hall (.inr hs) (fun hr => by have := hik hr; omega) (hput he Zb0 (Adv.refl F L w)) (hdef (Adv.refl F L w) undef) h.inv fun o => ⟨.inl, fun h => h.elim id fun h => by rw [hs] at h; omega⟩) (Adv.refl F L w)
 ·rw [if_pos (hwant _ hw)]
  by_cases hisk : i = k
  ·subst hisk
   refine Zrw hC hP (Zdx hrel.op (ZbO hs)) hs h.inv (hfull rfl) hlvk hreads fun cv F' L' w' hv hI hF hl hA => ?_
   obtain ⟨k', hD⟩ := h.finishW hR hP hops' hao hall (hbef rfl) (hput he hv hA) (hdef hA cv) hI hF hl
   exact hK _ _ _ _ _ _ hD hA
  ·have hnW : ao.op.isW = false := by
    cases hW : ao.op.isW with
    | false => rfl
    | true =>
     have hr := ZeU hW
     have := h.noW i ao (hmi hr) (by have := hik hr; omega) hao
     rw [hW] at this; cases this
   obtain ⟨new, hn, hnr, hq⟩ := Ziy hP (Zdx hrel.op (ZbO hs)) hnW hs
   have hpos : ao.op.isReg = false → m ≤ i ∧ i < k := fun hr => ⟨hmi hr, by have := hik hr; omega⟩
   refine hq h.inv ?_ hreads fun cv F' L' w' hv hI hA hid => ?_
   ·cases hr : ao.op.isReg with
    | true => exact .inl rfl
    | false =>
     right
     obtain ⟨p1, p2⟩ := hpos hr
     obtain ⟨n1, hn1⟩ := h.grow hR hP hops' (x := i) (y := k) p1 (by omega) (Nat.le_refl k)
     obtain ⟨n2, hn2⟩ := h.grow hR hP hops' (x := i + 1) (y := k) (by omega) (by omega) (Nat.le_refl k)
     refine ⟨fun x hx => by rw [hn1]; exact List.getElem?_append_left hx, fun x ob hx => ⟨?_, ?_⟩⟩
     ·rw [hn2, hn]
      have hxl : x < new.length := (List.getElem?_eq_some_iff.1 hx).1
      rw [List.getElem?_append_left (by simp; omega), List.getElem?_append_right (by omega), Nat.add_sub_cancel_left]; exact hx
     ·have hxl : x < new.length := (List.getElem?_eq_some_iff.1 hx).1
      apply Classical.byContradiction
      intro hne
      rcases (h.ids _).1 hne with h1 | ⟨j, j1, j2, j3, j4, j5⟩
      ·obtain ⟨n3, hn3⟩ := h.grow hR hP hops' (x := m) (y := i) (Nat.le_refl m) p1 (by omega)
       have := Ziz hn3; omega
      ·rcases Nat.lt_trichotomy j i with hj | rfl | hj
       ·obtain ⟨n3, hn3⟩ := h.grow hR hP hops' (x := j + 1) (y := i) (by omega) (by omega) (by omega)
        have := Ziz hn3; omega
       ·rw [hun] at j3; cases j3
       ·obtain ⟨n3, hn3⟩ := h.grow hR hP hops' (x := i + 1) (y := j) (by omega) (by omega) (by omega)
        have := Ziz hn3
        rw [hn, List.length_append] at this; omega
   ·have hid' : ∀ o, L' o ≠ .un ↔ L o ≠ .un ∨ ((ss i).length ≤ o ∧ o < (ss (i + 1)).length) := fun o => by
     rw [hid o, hn, List.length_append]; rfl
    refine hK _ _ _ _ _ _ (h.finishQ hao hall ?_ (fun hr => (hpos hr).2) (hput he hv hA) (hdef hA cv) hI hid') hA
    cases hr : ao.op.isReg with
    | true => exact .inr (hR.reg hP hops' hao hr)
    | false => exact .inl (hpos hr)


inductive Ord (ops : Array Oper) : Array Bool → List Nat → Prop
 | nil {listed : Array Bool} : Region.ready .any ops listed = [] → Ord ops listed []
 | cons {listed : Array Bool} {i : Nat} {s : List Nat} : i ∈ Region.ready .any ops listed → Ord ops (listed.setIfInBounds i true) s → Ord ops listed (i :: s)

theorem DInv.all (hR : RunD cw lv aos es ss) (hW : DrawOk aos) (hC : CallsOk P cw) (hP : Z7 P cw)
  (hops : ∀ (i : Nat) (ao : AOper), aos[i]? = some ao → ∃ o, ops[i]? = some o ∧ OpRel P ops ao o) (hsz : ops.size = aos.length) {Q : Exit → Act → World → Prop} :
  ∀ (f : Nat) {listed : Array Bool} {m k : Nat} {F : Frz} {L : Lay} {a : Act} {w : World}, DInv bs P cw lv aos es ss listed m k F L a w →
   (∀ listed' m' k' F' L' a' w', DInv bs P cw lv aos es ss listed' m' k' F' L' a' w' → Region.ready .any ops listed' = [] → Adv F L w F' L' w' → Q .normal a' w') →
   listed.toList.countP (!·) = f → wpAnyIn (Fr rd) 0 P .any ops Q f listed a w := by
 intro f
 induction f with
 | zero =>
  intro listed m k F L a w h hK hf
  have hr : Region.ready .any ops listed = [] := by
   apply List.eq_nil_iff_forall_not_mem.2
   intro i hi
   have := (mem_ready.1 hi).1
   have hlt : i < listed.size := by
    apply Classical.byContradiction
    intro hge
    rw [Array.getD_eq_getD_getElem?, Array.getElem?_eq_none (by omega)] at this; simp at this
   rw [List.countP_eq_zero] at hf
   have h1 := hf listed[i] (by simp)
   rw [Array.getD_eq_getD_getElem?, Array.getElem?_eq_getElem hlt] at this
   simp at this h1
   rw [this] at h1; cases h1
  exact ⟨hr, hK _ _ _ _ _ _ _ h hr (Adv.refl F L w)⟩
 | succ f ih =>
  intro listed m k F L a w h hK hf
  refine ⟨fun hr => hK _ _ _ _ _ _ _ h hr (Adv.refl F L w), fun i hi => ?_⟩
  refine h.step hR hW hC hP hops hi hsz fun m' k' F' L' a' w' hD hA => ?_
  refine ih hD (fun l2 m2 k2 F2 L2 a2 w2 g1 g2 g3 => hK _ _ _ _ _ _ _ g1 g2 (hA.trans g3)) ?_
  have hun := (mem_ready.1 hi).1
  have hlt : i < listed.toList.length := by
   apply Classical.byContradiction
   intro hge
   rw [Array.getD_eq_getD_getElem?, Array.getElem?_eq_none (by simpa using hge)] at hun; simp at hun
  have hli : listed.toList[i] = false := by
   rw [Array.getD_eq_getD_getElem?, Array.getElem?_eq_getElem (by simpa using hlt)] at hun
   simpa using hun
  rw [Array.toList_setIfInBounds, List.countP_set hlt, hli, hf]
  simp

theorem ZgM {cw : Zz} (hD : Det cw) (hC : CallsOk P cw) (hP : Z7 P cw) {lv : List Nat} {ops : Array Oper} {aos : List AOper} (hsz : ops.size = aos.length)
  (hops : ∀ (i : Nat) (ao : AOper), aos[i]? = some ao → ∃ o, ops[i]? = some o ∧ OpRel P ops ao o) (hok : Zek aos = true) {e : Env} {σ : Sto} {K : Env → Sto → Prop} (h : Zu cw lv aos e σ K)
  {F : Frz} {L : Lay} {a : Act} {w : World} (hR : CRel bs F L lv e σ a w) {Q : Exit → Act → World → Prop} (hK : ∀ e' σ' F' L' a' w', K e' σ' → CRel bs F' L' lv e' σ' a' w' → Adv F L w F' L' w' → Q .normal a' w') : wpAnyIn (Fr rd) 0 P .any ops Q ops.size (Array.replicate ops.size false) a { w with drawn := w.drawn + 1 } := by
 obtain ⟨es, ss, rfl, rfl, hstep, hk⟩ := ZgK hD aos h
 have hRun : RunD cw lv aos es ss := ⟨hstep, (Zgp hok).toDrawBase⟩
 obtain ⟨k, k1, k2, k3, k4⟩ := ZoJ aos aos.length 0 (by omega)
 have hops' : ∀ (i : Nat) (ao : AOper), aos[i]? = some ao → ∃ o, ops.toList[i]? = some o ∧ (cOp P o).getD .unsup = ao.op.strip := fun i ao hi => by
  obtain ⟨o, h1, h2⟩ := hops i ao hi
  exact ⟨o, by simpa using h1, h2.op⟩
 obtain ⟨new, hnew⟩ := hRun.grow (k := k) hP hops' (i := 0) (by omega) fun j aj g1 g2 g3 => k3 j aj g1 (by omega) g3
 rw [Nat.zero_add] at hnew
 have hfalse : ∀ j, (Array.replicate ops.size false).getD j false = false := fun j => by
  rw [Array.getD_eq_getD_getElem?, Array.getElem?_replicate]; split <;> rfl
 have hAd : Adv F L w F L { w with drawn := w.drawn + 1 } := ⟨Frz.Le.refl F, Evo.refl L, rfl, rfl, rfl, Nat.le_refl _, fun _ _ h => h, fun _ _ _ => rfl, fun _ _ _ => ⟨fun _ => rfl, rfl⟩⟩
 have hinv0 : Inv F L (ss 0) { w with drawn := w.drawn + 1 } :=
  ⟨fun b off v h => by have := hR.inv.fz b off v h; rwa [← World.cell?_heap (w := w) (w' := { w with drawn := w.drawn + 1 }) rfl] at this, hR.inv.fm, fun o loc gen h => let ⟨ob, h1, h2⟩ := hR.inv.obj o loc gen h; ⟨ob, h1, h2.mono (Frz.Le.refl F) (Evo.refl L) fun b hb => rfl⟩, hR.inv.lt, hR.inv.inj, hR.inv.sep, hR.inv.dd, hR.inv.gl⟩
 have h0 : DInv bs P cw lv aos es ss (Array.replicate ops.size false) 0 k F L a { w with drawn := w.drawn + 1 } := by
  refine ⟨⟨by simp [hsz], fun j ao _ hl => by rw [hfalse] at hl; cases hl⟩, Nat.zero_le _, k2, k3, k4, fun j ao hj => absurd hj (Nat.not_lt_zero _), fun j ao _ _ _ => hfalse j, ?_, hR.defers, ?_, fun o => ?_, hR.lv⟩
  ·have : ZcU aos es (Array.replicate ops.size false) = es 0 := by
    apply List.ext_getElem?
    intro t
    refine Za3 Zas fun hlt => ?_
    rw [Zas] at hlt
    rw [Zcj hlt, if_neg, Zb1 hlt]
    rintro ⟨j, ao, h1, _⟩
    rw [hfalse] at h1; cases h1
   rw [this]; exact hR.env
  ·rw [hnew]; exact hinv0.extend (fun x hx => List.getElem?_append_left hx) (by simp)
  ·constructor
   ·intro ho; exact .inl (hinv0.lt o ho)
   ·rintro (h1 | ⟨j, _, _, h3, _⟩)
    ·exact hR.full o h1
    ·rw [hfalse] at h3; cases h3
 refine DInv.all hRun (Zgp hok) hC hP hops hsz _ h0 (fun listed' m' k' F' L' a' w' hI hr hA => ?_) (by simp [List.countP_replicate])
 -- at the end all are listed
 have hlist : ∀ (i : Nat), i < aos.length → listed'.getD i false = true := by
  intro i
  induction i using Nat.strongRecOn with
  | _ i ih =>
  intro hil
  apply Classical.byContradiction
  intro hne
  have hao := List.getElem?_eq_getElem hil
  obtain ⟨o, ho, hrel⟩ := hops i _ hao
  have : i ∈ Region.ready .any ops listed' := by
   refine mem_ready.2 ⟨?_, o, ho, fun x hx hb => ?_⟩
   ·have hlt : i < listed'.size := by rw [hI.cl.size]; exact hil
    rw [Array.getD_eq_getD_getElem?, Array.getElem?_eq_getElem hlt] at hne ⊢
    simpa using hne
   ·have hmem : x.on ∈ aos[i].after := by
     rw [hrel.after]; exact List.mem_map.2 ⟨x, List.mem_filter.2 ⟨by simpa using hx, hb⟩, rfl⟩
    have hlt := hRun.ok.lt i _ hao _ hmem
    exact ih _ hlt (by omega)
  rw [hr] at this; cases this
 have hkn : k' = aos.length := by
  apply Classical.byContradiction
  intro hne
  have hlt : k' < aos.length := by have := hI.le2; omega
  have hak := List.getElem?_eq_getElem hlt
  have := hI.post k' _ (Nat.le_refl _) hak (ZeU (hI.kW _ hak))
  rw [hlist k' hlt] at this; cases this
 subst hkn
 refine hK _ _ _ _ _ _ hk ⟨?_, hI.defers, hI.inv, fun o ho => ?_, ?_⟩ (hAd.trans hA)
 ·have : ZcU aos es listed' = es aos.length := by
   apply List.ext_getElem?
   intro t
   refine Za3 (by rw [Zas, hRun.len (Nat.le_refl _)]) fun hlt => ?_
   rw [Zas] at hlt
   rw [Zcj hlt, Zb1 (by rw [hRun.len (Nat.le_refl _)]; exact hlt)]
   congr 1
   split
   ·rfl
   ·rename_i hnw
    exact (hRun.first (Nat.le_refl _) fun j aj hj haj hd => hnw ⟨j, aj, hlist j hj, haj, hd⟩).symm
  rw [← this]; exact hI.env
 ·rw [hI.ids]
  rcases Nat.lt_or_ge o (ss m').length with hlt | hge
  ·exact .inl hlt
  ·right
   have key : ∀ (d : Nat), m' + d ≤ aos.length → o < (ss (m' + d)).length → ∃ j, m' ≤ j ∧ j < aos.length ∧ (ss j).length ≤ o ∧ o < (ss (j + 1)).length := by
    intro d
    induction d with
    | zero => intro _ h2; exact absurd h2 (by simpa using hge)
    | succ d ih =>
     intro h1 h2
     rcases Nat.lt_or_ge o (ss (m' + d)).length with h3 | h3
     ·exact ih (by omega) h3
     ·exact ⟨m' + d, by omega, by omega, h3, h2⟩
   obtain ⟨j, j1, j2, j3, j4⟩ := key (aos.length - m') (by have := hI.le1; omega) (by rw [show m' + (aos.length - m') = aos.length by have := hI.le1; omega]; exact ho)
   exact ⟨j, j1, j2, hlist j j2, j3, j4⟩
 ·obtain ⟨new, hn⟩ := hI.grow hRun hP hops' (Nat.le_refl m') hI.le1 (Nat.le_refl _)
  rw [hn]; exact hI.lv.append new

theorem ZkD {cw : Zz} (hD : Det cw) (hC : CallsOk P cw) (hP : Z7 P cw) {lv : List Nat} {ops : Array Oper} {aos : List AOper} (hm : P.follows .mixedOrders = true) (hsz : ops.size = aos.length)
  (hops : ∀ (i : Nat) (ao : AOper), aos[i]? = some ao → ∃ o, ops[i]? = some o ∧ OpRel P ops ao o) (hok : Zek aos = true) {id : Nat} {e : Env} {σ : Sto} {K : Env → Sto → Prop} (h : Zu cw lv aos e σ K)
  {F : Frz} {L : Lay} {a : Act} {w : World} (hR : CRel bs F L lv e σ a w) {Q : Exit → Act → World → Prop} (hK : ∀ e' σ' F' L' a' w', K e' σ' → CRel bs F' L' lv e' σ' a' w' → Adv F L w F' L' w' → Q .normal a' w') : (Code.region id ops true).wpIn (Fr rd) 0 P Q a w :=
 wpIn_region_any hm (ZgM hD hC hP hsz hops hok h hR hK)

end

end
end Go.Abs
/- Regions whose operations write in any order: what an operation looks at. -/
namespace Go.Abs
open Go
variable [Inhabited Glob] [Lps]

section
variable {lv : List Nat} {e : Env} {σ σh σ' : Sto} {v : AVal} {p : Nat → Bool}

theorem Zmh {a : AOp} (hq : a.isQ = true) (hm : a.makes = false) (hp : ∀ x ∈ a.opds, (ev e x).names p = true) (hag : ∀ o, p o = true → o < σ.length → σh[o]? = σ[o]?) (hs : Zc lv a e σ = some (v, σ')) :
  Zc lv a e σh = some (v, σh) := by
 have key : Zc lv a e σh = (Zc lv a e σ).map fun q => (q.1, σh) := by
  have gate : ∀ o, p o = true → σ[o]? ≠ none → σh[o]? = σ[o]? := fun o h1 h2 => hag o h1 (by
   apply Classical.byContradiction
   intro hc
   exact h2 (List.getElem?_eq_none (by omega)))
  cases a <;> first
   | (simp [AOp.isQ] at hq; done)
   | (simp [AOp.makes] at hm; done)
   | skip
  case load g n x =>
   have hx := hp x (by simp [AOp.opds])
   simp only [Zc]
   cases hv : ev e x <;> simp only [hv] at hx ⊢ <;> (try (simp only [AVal.names] at hx; rw [gate _ hx (by intro hn; simp [Zc, hv, hn] at hs)])) <;> (repeat' split) <;> simp_all [Function.comp_def]
  case eqnil g kd x =>
   have hx := hp x (by simp [AOp.opds])
   simp only [Zc]
   cases hv : ev e x <;> cases kd <;> simp only [hv] at hx ⊢ <;> (try (simp only [AVal.names] at hx; rw [gate _ hx (by intro hn; simp [Zc, hv, hn] at hs)])) <;> (repeat' split) <;> first | rfl | (simp_all; done)
  case eqp g x y =>
   have hx := hp x (by simp [AOp.opds])
   have hy := hp y (by simp [AOp.opds])
   simp only [Zc]
   cases hv : ev e x <;> cases hw : ev e y <;> simp only [hv, hw] at hx hy ⊢ <;> (try (simp only [AVal.names] at hx hy; rw [gate _ hx (by intro hn; simp [Zc, hv, hw, hn] at hs), gate _ hy (by intro hn; simp [Zc, hv, hw, hn] at hs)])) <;> (repeat' split) <;> first | rfl | (simp_all; done)
  case len kd x =>
   have hx := hp x (by simp [AOp.opds])
   simp only [Zc]
   cases hv : ev e x <;> cases kd <;> simp only [hv] at hx ⊢ <;> (try (simp only [AVal.names] at hx; rw [gate _ hx (by intro hn; simp [Zc, hv, hn] at hs)])) <;> (repeat' split) <;> first | rfl | (simp_all; done)
  case iaddr k x i =>
   have hx := hp x (by simp [AOp.opds])
   simp only [Zc]
   cases hv : ev e x <;> cases hi : Zbn (ev e i) <;> simp only [hv] at hx ⊢ <;> (try (simp only [AVal.names] at hx; rw [gate _ hx (by intro hn; simp [Zc, *] at hs)])) <;> (repeat' split) <;> first | rfl | (simp_all [Function.comp_def]; done)
  case arrp n k x =>
   have hx := hp x (by simp [AOp.opds])
   simp only [Zc]
   cases hv : ev e x <;> simp only [hv] at hx ⊢ <;> (try (simp only [AVal.names] at hx; rw [gate _ hx (by intro hn; simp [Zc, hv, hn] at hs)])) <;> (repeat' split) <;> first | rfl | (simp_all; done)
  case lookup sh z ok m i =>
   have hx := hp m (by simp [AOp.opds])
   simp only [Zc]
   cases hv : ev e m <;> simp only [hv] at hx ⊢ <;> (try (simp only [AVal.names] at hx; rw [gate _ hx (by intro hn; simp [Zc, hv, hn] at hs)])) <;> (repeat' split) <;> first | rfl | (simp_all [Function.comp_def]; done)
  case slice k x lo hi mx =>
   have hx := hp x (by simp [AOp.opds])
   simp only [Zc]
   cases hv : ev e x <;> simp only [hv] at hx ⊢ <;> (try (simp only [AVal.names] at hx; rw [gate _ hx (by intro hn; simp [Zc, hv, hn] at hs)])) <;> (repeat' split) <;> first | rfl | (simp_all; done)
  case slarr n k x lo hi =>
   have hx := hp x (by simp [AOp.opds])
   simp only [Zc]
   cases hv : ev e x <;> cases h1 : Zam e lo 0 <;> cases h2 : Zam e hi n <;> simp only [hv] at hx ⊢ <;> (try (simp only [AVal.names] at hx; rw [gate _ hx (by intro hn; simp [Zc, *] at hs)])) <;> (repeat' split) <;> first | rfl | (simp_all; done)
  all_goals
   simp only [Zc]
   (repeat' split) <;> first | rfl | (simp_all [Function.comp_def]; done)
 rw [key, hs]; rfl

theorem ZjB {a : AOp} (hm : a.makes = true) (hs : Zc lv a e σ = some (v, σ')) :
  ∃ ob, σ' = σ ++ [ob] ∧ (v.names p = true → p σ.length = true) ∧ ∀ {σh : Sto}, σh.length = σ.length → Zc lv a e σh = some (v, σh ++ [ob]) := by
 cases a <;> first
  | (simp [AOp.makes] at hm; done)
  | skip
 case alloc z =>
  simp only [Zc, Option.some.injEq, Prod.mk.injEq] at hs
  obtain ⟨rfl, rfl⟩ := hs
  exact ⟨_, rfl, fun h => by simpa [AVal.names] using h, fun hl => by simp only [Zc, hl]⟩
 case box n x =>
  simp only [Zc] at hs
  split at hs
  ·rename_i hf
   obtain ⟨rfl, rfl⟩ := Prod.mk.inj (Option.some.inj hs)
   exact ⟨_, rfl, fun h => by simpa [AVal.names] using h, fun hl => by simp only [Zc, if_pos hf, hl]⟩
  ·simp at hs
 case bslice k l z ps =>
  simp only [Zc, Option.map_eq_some_iff, Prod.mk.injEq] at hs
  obtain ⟨cs, h1, rfl, rfl⟩ := hs
  exact ⟨_, rfl, fun h => by simpa [AVal.names] using h, fun hl => by simp only [Zc, h1, Option.map_some, hl]⟩
 case mkmap =>
  simp only [Zc, Option.some.injEq, Prod.mk.injEq] at hs
  obtain ⟨rfl, rfl⟩ := hs
  exact ⟨_, rfl, fun h => by simpa [AVal.names] using h, fun hl => by simp only [Zc, hl]⟩
 case mkslice k b z l c =>
  simp only [Zc] at hs
  split at hs
  ·split at hs
   ·rename_i h1 h2 hc
    obtain ⟨rfl, rfl⟩ := Prod.mk.inj (Option.some.inj hs)
    exact ⟨_, rfl, fun h => by simpa [AVal.names] using h, fun hl => by simp only [Zc, h1, h2, if_pos hc, hl]⟩
   ·simp at hs
  ·simp at hs

theorem Zfw {x : AVal} (hx : x.names p = true) (hag : ∀ o, p o = true → o < σ.length → σh[o]? = σ[o]?) (hn : Zai σ x ≠ none) : Zai σh x = Zai σ x := by
 cases x <;> simp only [Zai]
 simp only [AVal.names] at hx
 rw [hag _ hx (by
  apply Classical.byContradiction
  intro hc
  exact hn (by simp only [Zai]; rw [List.getElem?_eq_none (by omega)]))]

theorem Zlj {a : AOp} (hm : a.setter = true) (hp : ∀ x ∈ a.opds, (ev e x).names p = true) (hag : ∀ o, p o = true → o < σ.length → σh[o]? = σ[o]?) (ht : ∀ x, a.tgt = some x → (ev e x).there = true) (hs : Zc lv a e σ = some (v, σ')) :
  (σ' = σ ∧ Zc lv a e σh = some (v, σh)) ∨ ∃ o ob, p o = true ∧ (∀ x, a.tgt = some x → ∀ q : Nat → Bool, (ev e x).names q = true → q o = true) ∧ o < σ.length ∧ σ' = σ.set o ob ∧ Zc lv a e σh = some (v, σh.set o ob) := by
 have lt : ∀ {o : Nat} {ob : AObj}, σ[o]? = some ob → o < σ.length := fun h => (List.getElem?_eq_some_iff.1 h).1
 cases a <;> first
  | (simp [AOp.setter] at hm; done)
  | skip
 case store n x y =>
  have hx := hp x (by simp [AOp.opds])
  simp only [Zc] at hs ⊢
  cases hv : ev e x <;> simp only [hv] at hs hx ⊢ <;> try (simp at hs; done)
  rename_i o gen off
  simp only [AVal.names] at hx
  cases ho : σ[o]? with
  | none => rw [ho] at hs; simp at hs
  | some ob =>
   rw [hag _ hx (lt ho), ho]
   rw [ho] at hs
   cases ob <;> simp only at hs ⊢ <;> try (simp at hs; done)
   split at hs
   ·rename_i hc
    obtain ⟨rfl, rfl⟩ := Prod.mk.inj (Option.some.inj hs)
    exact .inr ⟨o, _, hx, fun y hy q hq => by obtain rfl := Option.some.inj hy; rw [hv] at hq; exact hq, lt ho, rfl, by rw [if_pos hc]⟩
   ·simp at hs
 case mapup sh m k y =>
  have hx := hp m (by simp [AOp.opds])
  simp only [Zc] at hs ⊢
  cases hv : ev e m <;> simp only [hv] at hs hx ⊢ <;> try (simp at hs; done)
  rename_i o
  simp only [AVal.names] at hx
  cases ho : σ[o]? with
  | none => rw [ho] at hs; simp at hs
  | some ob =>
   rw [hag _ hx (lt ho), ho]
   rw [ho] at hs
   cases ob <;> simp only at hs ⊢ <;> try (simp at hs; done)
   split at hs
   ·rename_i hc
    rw [if_pos hc]
    split at hs
    ·split at hs
     ·rename_i hsm
      obtain ⟨rfl, rfl⟩ := Prod.mk.inj (Option.some.inj hs)
      exact .inr ⟨o, _, hx, fun y hy q hq => by obtain rfl := Option.some.inj hy; rw [hv] at hq; exact hq, lt ho, rfl, by simp only [if_pos hsm]⟩
     ·simp at hs
    ·obtain ⟨rfl, rfl⟩ := Prod.mk.inj (Option.some.inj hs)
     exact .inr ⟨o, _, hx, fun y hy q hq => by obtain rfl := Option.some.inj hy; rw [hv] at hq; exact hq, lt ho, rfl, rfl⟩
    ·simp at hs
   ·simp at hs
 case delete sh m k =>
  have hx := hp m (by simp [AOp.opds])
  simp only [Zc] at hs ⊢
  cases hv : ev e m <;> simp only [hv] at hs hx ⊢ <;> try (simp at hs; done)
  rename_i o
  simp only [AVal.names] at hx
  cases ho : σ[o]? with
  | none => rw [ho] at hs; simp at hs
  | some ob =>
   rw [hag _ hx (lt ho), ho]
   rw [ho] at hs
   cases ob <;> simp only at hs ⊢ <;> try (simp at hs; done)
   split at hs
   ·rename_i hc
    rw [if_pos hc]
    split at hs
    ·simp at hs
    ·obtain ⟨rfl, rfl⟩ := Prod.mk.inj (Option.some.inj hs)
     exact .inl ⟨rfl, rfl⟩
    ·simp at hs
   ·simp at hs
 case clear z x =>
  have hx := hp x (by simp [AOp.opds])
  simp only [Zc] at hs ⊢
  cases hv : ev e x <;> simp only [hv] at hs hx ⊢ <;> try (simp at hs; done)
  all_goals first
   | (obtain ⟨rfl, rfl⟩ := Prod.mk.inj (Option.some.inj hs); exact .inl ⟨rfl, rfl⟩)
   | skip
  ·rename_i k xs
   cases xs with
   | nil => obtain ⟨rfl, rfl⟩ := Prod.mk.inj (Option.some.inj hs); exact .inl ⟨rfl, rfl⟩
   | cons y ys => simp at hs
  ·rename_i o gen off len k
   simp only [AVal.names] at hx
   cases ho : σ[o]? with
   | none => rw [ho] at hs; simp at hs
   | some ob =>
    rw [hag _ hx (lt ho), ho]
    rw [ho] at hs
    cases ob <;> simp only at hs ⊢ <;> try (simp at hs; done)
    split at hs
    ·rename_i hc
     obtain ⟨rfl, rfl⟩ := Prod.mk.inj (Option.some.inj hs)
     exact .inr ⟨o, _, hx, fun y hy q hq => by obtain rfl := Option.some.inj hy; rw [hv] at hq; exact hq, lt ho, rfl, by rw [if_pos hc]⟩
    ·simp at hs
 case copy k d y =>
  have hx := hp d (by simp [AOp.opds])
  have hy := hp y (by simp [AOp.opds])
  have htt := ht d rfl
  have hn : Zai σ (ev e y) ≠ none := by
   intro hn
   simp only [Zc, hn] at hs
   (repeat' split at hs) <;> simp_all
  simp only [Zc, Zfw hy hag hn] at hs ⊢
  cases hv : ev e d <;> simp only [hv] at hs hx htt ⊢ <;> try (simp at hs; done)
  ·simp [AVal.there] at htt
  ·rename_i o gen off len k'
   cases hr : Zai σ (ev e y) with
   | none => rw [hr] at hs; simp at hs
   | some q =>
    obtain ⟨m, src⟩ := q
    rw [hr] at hs
    simp only [AVal.names] at hx
    simp only at hs ⊢
    cases ho : σ[o]? with
    | none => rw [ho] at hs; simp at hs
    | some ob =>
     rw [hag _ hx (lt ho), ho]
     rw [ho] at hs
     cases ob <;> simp only at hs ⊢ <;> try (simp at hs; done)
     split at hs
     ·rename_i hc
      obtain ⟨rfl, rfl⟩ := Prod.mk.inj (Option.some.inj hs)
      exact .inr ⟨o, _, hx, fun y hy q hq => by obtain rfl := Option.some.inj hy; rw [hv] at hq; exact hq, lt ho, rfl, by rw [if_pos hc]⟩
     ·simp at hs
 case append k bytes s y =>
  have hx := hp s (by simp [AOp.opds])
  have hy := hp y (by simp [AOp.opds])
  have htt := ht s rfl
  have hn : Zai σ (ev e y) ≠ none := by
   intro hn
   simp only [Zc, hn] at hs
   (repeat' split at hs) <;> simp_all
  simp only [Zc, Zfw hy hag hn] at hs ⊢
  cases hr : Zai σ (ev e y) with
  | none => rw [hr] at hs; simp at hs
  | some q =>
   obtain ⟨m, new⟩ := q
   rw [hr] at hs
   simp only at hs ⊢
   split at hs
   case isFalse => simp at hs
   rename_i hc
   rw [if_pos hc]
   cases hv : ev e s <;> simp only [hv] at hs hx htt ⊢ <;> try (simp at hs; done)
   ·simp [AVal.there] at htt
   ·simp [AVal.there] at htt
   ·rename_i o gen off len k'
    simp only [AVal.names] at hx
    cases ho : σ[o]? with
    | none => rw [ho] at hs; simp at hs
    | some ob =>
     rw [hag _ hx (lt ho), ho]
     rw [ho] at hs
     cases ob <;> simp only at hs ⊢ <;> try (simp at hs; done)
     split at hs
     case isFalse => simp at hs
     rename_i hc2
     rw [if_pos hc2]
     split at hs
     ·rename_i hm0
      obtain ⟨rfl, rfl⟩ := Prod.mk.inj (Option.some.inj hs)
      exact .inl ⟨rfl, by rw [if_pos hm0]⟩
     ·rename_i hm0
      rw [if_neg hm0]
      split at hs
      ·rename_i hc3
       obtain ⟨rfl, rfl⟩ := Prod.mk.inj (Option.some.inj hs)
       exact .inr ⟨o, _, hx, fun y hy q hq => by obtain rfl := Option.some.inj hy; rw [hv] at hq; exact hq, lt ho, rfl, by rw [if_pos hc3]⟩
      ·rename_i hc3
       rw [if_neg hc3]
       split at hs
       ·rename_i hc4
        obtain ⟨rfl, rfl⟩ := Prod.mk.inj (Option.some.inj hs)
        exact .inr ⟨o, _, hx, fun y hy q hq => by obtain rfl := Option.some.inj hy; rw [hv] at hq; exact hq, lt ho, rfl, by rw [if_pos hc4]⟩
       ·simp at hs

 case appendz k bytes z s y =>
  have hx := hp s (by simp [AOp.opds])
  have htt := ht s rfl
  simp only [Zc] at hs ⊢
  cases hv : ev e s <;> simp only [hv] at hs hx htt ⊢ <;> try (simp at hs; done)
  ·simp [AVal.there] at htt
  ·rename_i o gen off len k'
   simp only [AVal.names] at hx
   cases hy : ev e y <;> simp only [hy] at hs ⊢ <;> try (simp at hs; done)
   rename_i kd n
   cases kd <;> simp only at hs ⊢ <;> try (simp at hs; done)
   cases ho : σ[o]? with
   | none => rw [ho] at hs; simp at hs
   | some ob =>
    rw [hag _ hx (lt ho), ho]
    rw [ho] at hs
    cases ob <;> simp only at hs ⊢ <;> try (simp at hs; done)
    split at hs
    ·rename_i hc
     obtain ⟨rfl, rfl⟩ := Prod.mk.inj (Option.some.inj hs)
     exact .inr ⟨o, _, hx, fun y hy q hq => by obtain rfl := Option.some.inj hy; rw [hv] at hq; exact hq, lt ho, rfl, by rw [if_pos hc]⟩
    ·simp at hs
 case appendF k bytes s y =>
  have hx := hp s (by simp [AOp.opds])
  have hy := hp y (by simp [AOp.opds])
  have hn : Zai σ (ev e y) ≠ none := by
   intro hn
   simp only [Zc, hn] at hs
   (repeat' split at hs) <;> simp_all
  simp only [Zc, Zfw hy hag hn] at hs ⊢
  cases hr : Zai σ (ev e y) with
  | none => rw [hr] at hs; simp at hs
  | some q =>
   obtain ⟨m, new⟩ := q
   rw [hr] at hs
   cases hv : ev e s <;> simp only [hv] at hs hx ⊢ <;> try (simp at hs; done)
   rename_i o gen off len k'
   simp only [AVal.names] at hx
   cases ho : σ[o]? with
   | none => rw [ho] at hs; simp at hs
   | some ob =>
    rw [hag _ hx (lt ho), ho]
    rw [ho] at hs
    cases ob with
    | cells nl cs =>
     cases nl <;> simp only at hs ⊢ <;> try (simp at hs; done)
     split at hs
     ·rename_i hc
      obtain ⟨rfl, rfl⟩ := Prod.mk.inj (Option.some.inj hs)
      exact .inr ⟨o, _, hx, fun y hy q hq => by obtain rfl := Option.some.inj hy; rw [hv] at hq; exact hq, lt ho, rfl, by rw [if_pos hc]⟩
     ·simp at hs
    | map ks vs => simp at hs
    | loop _ _ _ _ => simp at hs
    | dead => simp at hs

end

theorem names_mono {f g : Nat → Bool} (h : ∀ o, f o = true → g o = true) : ∀ (v : AVal), v.names f = true → v.names g = true := by
 intro v
 refine AVal.rec (motive_1 := fun v => v.names f = true → v.names g = true) (motive_2 := fun vs => AVal.namesL f vs = true → AVal.namesL g vs = true)
  ?_ ?_ ?_ ?_ ?_ ?_ ?_ ?_ ?_ ?_ ?_ ?_ ?_ ?_ ?_ ?_ ?_ ?_ ?_ ?_ ?_ ?_ ?_ v <;> intros <;> simp_all [AVal.names, AVal.namesL]

def Zbb (v : AVal) (o : Nat) : Prop := v.names (fun q => decide (q ≠ o)) = false

theorem Zeo {v : AVal} {o : Nat} {f : Nat → Bool} (hn : Zbb v o) (hv : v.names f = true) : f o = true := by
 cases hf : f o with
 | true => rfl
 | false =>
  have := names_mono (f := f) (g := fun q => decide (q ≠ o)) (fun q hq => by
   simp only [ne_eq, decide_eq_true_eq]
   rintro rfl
   rw [hf] at hq; cases hq) v hv
  unfold Zbb at hn
  rw [hn] at this; cases this

theorem ZoD {p : Nat → Bool} : ∀ (v : AVal), (∀ o, Zbb v o → p o = true) → v.names p = true := by
 intro v
 refine AVal.rec (motive_1 := fun v => (∀ o, Zbb v o → p o = true) → v.names p = true) (motive_2 := fun vs => (∀ o, AVal.namesL (fun q => decide (q ≠ o)) vs = false → p o = true) → AVal.namesL p vs = true)
  ?_ ?_ ?_ ?_ ?_ ?_ ?_ ?_ ?_ ?_ ?_ ?_ ?_ ?_ ?_ ?_ ?_ ?_ ?_ ?_ ?_ ?_ ?_ v <;> intros <;> simp_all [Zbb, AVal.names, AVal.namesL]

theorem ZkC {u v : AVal} {o : Nat} (h : u.apart v = true) (hu : Zbb u o) (hv : Zbb v o) : False := by
 simp only [AVal.apart, Bool.and_eq_true] at h
 have h1 := Zeo hu h.2
 have h2 := Zeo hv h1
 simp at h2

theorem ZgI {v : AVal} {o : Nat} (h : v.pure = true) (hn : Zbb v o) : False := by
 have := Zeo hn h
 simp at this

def ZjC (cw : Zz) : Prop := ∀ {f : FuncId} {args : List AVal} {lv : List Nat} {σ σh : Sto} {Q Q' : Zs}, cw true f args lv σ Q → AVal.pures args = true → (∀ v, Q v σ → Q' v σh) → cw true f args lv σh Q'

theorem ZcF {cw : Zz} {lv : List Nat} {op : AOp} {e : Env} {σ σ' : Sto} {v : AVal} (h1 : op.setter = true) (hs : Zaq cw lv op e σ v σ') : Zc lv op e σ = some (v, σ') := by
 cases op <;> first | exact hs | simp [AOp.setter] at h1
theorem ZoE {op : AOp} (hw : op.isW = false) (h1 : ∀ p f args, op ≠ .call p f args) (h2 : ∀ p x args, op ≠ .callv p x args) : op.isQ = true := by
 cases op <;> first | rfl | exact absurd rfl (h1 _ _ _) | exact absurd rfl (h2 _ _ _) | simp [AOp.isW, AOp.isQ] at hw

def Wr (ss : Nat → Sto) (i o : Nat) : Prop := o < (ss i).length ∧ (ss (i + 1))[o]? ≠ (ss i)[o]?

open Classical in
noncomputable def ZeT (ss : Nat → Sto) (listed : Array Bool) : Nat → Nat → Option AObj
 | 0, o => (ss 0)[o]?
 | k + 1, o => if (ss k).length ≤ o ∨ (listed.getD k false = true ∧ Wr ss k o) then (ss (k + 1))[o]? else ZeT ss listed k o

noncomputable def stS (ss : Nat → Sto) (n : Nat) (listed : Array Bool) : Sto := (List.range (ss n).length).map fun o => (ZeT ss listed n o).getD .dead

def ZgJ (ss : Nat → Sto) (n : Nat) : Prop := ∀ i, i < n → (ss i).length ≤ (ss (i + 1)).length

section
variable {ss : Nat → Sto} {n : Nat} {listed : Array Bool}

theorem ZgJ.le (h : ZgJ ss n) {i : Nat} : ∀ {j : Nat}, i ≤ j → j ≤ n → (ss i).length ≤ (ss j).length
 | 0, hij, _ => by
  have : i = 0 := by omega
  subst this
  exact Nat.le_refl _
 | j + 1, hij, hj => by
  rcases Nat.lt_or_ge i (j + 1) with hl | hl
  ·exact Nat.le_trans (h.le (by omega) (by omega)) (h j (by omega))
  ·have : i = j + 1 := by omega
   subst this
   exact Nat.le_refl _

theorem ZhJ (hG : ZgJ ss n) : ∀ k, k ≤ n → ∀ o, o < (ss k).length → ∃ ob, ZeT ss listed k o = some ob
 | 0, _, o, h => ⟨_, List.getElem?_eq_getElem h⟩
 | k + 1, hk, o, h => by
  simp only [ZeT]
  split
  ·exact ⟨_, List.getElem?_eq_getElem h⟩
  ·rename_i hc
   exact ZhJ hG k (by omega) o (by
    apply Classical.byContradiction
    intro hn
    exact hc (.inl (by omega)))

theorem Zcb : (stS ss n listed).length = (ss n).length := by simp [stS]
theorem Zcw (hG : ZgJ ss n) {o : Nat} (h : o < (ss n).length) : (stS ss n listed)[o]? = ZeT ss listed n o := by
 obtain ⟨ob, hob⟩ := ZhJ (listed := listed) hG n (Nat.le_refl _) o h
 simp [stS, h, hob]

theorem ZhK (hG : ZgJ ss n) {i o : Nat} (hi : i ≤ n) (ho : o < (ss i).length) (hw : ∀ k, k < n → Wr ss k o → (k < i ↔ listed.getD k false = true)) : ZeT ss listed n o = (ss i)[o]? := by
 have A : ∀ m, m ≤ i → o < (ss m).length → ZeT ss listed m o = (ss m)[o]? := by
  intro m
  induction m with
  | zero => intro _ _; rfl
  | succ m ih =>
   intro hm h
   simp only [ZeT]
   split
   ·rfl
   ·rename_i hc
    have h1 : o < (ss m).length := by
     apply Classical.byContradiction
     intro hn
     exact hc (.inl (by omega))
    rw [ih (by omega) h1]
    apply Classical.byContradiction
    intro he
    have hW : Wr ss m o := ⟨h1, fun e => he e.symm⟩
    exact hc (.inr ⟨(hw m (by omega) hW).1 (by omega), hW⟩)
 have B : ∀ d, i + d ≤ n → ZeT ss listed (i + d) o = (ss i)[o]? := by
  intro d
  induction d with
  | zero => intro _; exact A i (Nat.le_refl _) ho
  | succ d ih =>
   intro hd
   show ZeT ss listed (i + d + 1) o = _
   simp only [ZeT]
   rw [if_neg]
   ·exact ih (by omega)
   ·rintro (h | ⟨h1, h2⟩)
    ·have := hG.le (i := i) (j := i + d) (by omega) (by omega); omega
    ·have := (hw (i + d) (by omega) h2).2 h1; omega
 have := B (n - i) (by omega)
 rwa [show i + (n - i) = n by omega] at this

theorem Zfx {listed' : Array Bool} {o : Nat} (h : ∀ k, k < n → Wr ss k o → (listed'.getD k false = true ↔ listed.getD k false = true)) : ∀ k, k ≤ n → ZeT ss listed' k o = ZeT ss listed k o
 | 0, _ => rfl
 | k + 1, hk => by
  have ih := Zfx h k (by omega)
  have key : ((ss k).length ≤ o ∨ (listed'.getD k false = true ∧ Wr ss k o)) ↔ ((ss k).length ≤ o ∨ (listed.getD k false = true ∧ Wr ss k o)) := by
   constructor
   ·rintro (h1 | ⟨h1, h2⟩)
    ·exact .inl h1
    ·exact .inr ⟨(h k (by omega) h2).1 h1, h2⟩
   ·rintro (h1 | ⟨h1, h2⟩)
    ·exact .inl h1
    ·exact .inr ⟨(h k (by omega) h2).2 h1, h2⟩
  simp only [ZeT]
  by_cases hc : (ss k).length ≤ o ∨ (listed.getD k false = true ∧ Wr ss k o)
  ·rw [if_pos hc, if_pos (key.2 hc)]
  ·rw [if_neg hc, if_neg (fun h => hc (key.1 h)), ih]

theorem ZoF {listed' : Array Bool} (h : ∀ o k, k < n → Wr ss k o → (listed'.getD k false = true ↔ listed.getD k false = true)) : stS ss n listed' = stS ss n listed := by
 unfold stS
 apply List.map_congr_left
 intro o _
 rw [Zfx (h o) n (Nat.le_refl _)]

theorem ZpW (hG : ZgJ ss n) {listed' : Array Bool} {i o : Nat} {ob : AObj} (hi : i < n) (ho : o < (ss i).length) (hs : ss (i + 1) = (ss i).set o ob)
  (hl : ∀ k, listed'.getD k false = true ↔ k = i ∨ listed.getD k false = true) (hun : listed.getD i false = false) (hw : ∀ k, k < n → Wr ss k o → (k < i ↔ listed.getD k false = true)) :
  stS ss n listed' = (stS ss n listed).set o ob := by
 have hon : o < (ss n).length := by have := hG.le (i := i) (j := n) (by omega) (Nat.le_refl _); omega
 apply List.ext_getElem?
 intro o'
 rw [List.getElem?_set, Zcb]
 rcases Nat.lt_or_ge o' (ss n).length with hlt | hge
 ·split
  ·rename_i he
   subst he
   rw [Zcw hG hlt]
   have := ZhK (listed := listed') hG (i := i + 1) (o := o) (by omega) (by rw [hs, List.length_set]; exact ho) fun k hk hW => by
    rw [hl k]
    have h1 := hw k hk hW
    constructor
    ·intro h2
     by_cases hki : k = i
     ·exact .inl hki
     ·exact .inr (h1.1 (by omega))
    ·rintro (rfl | h2)
     ·omega
     ·have := h1.2 h2; omega
   rw [this, hs, List.getElem?_set_self ho]
  ·rename_i hne
   rw [Zcw hG hlt, Zcw hG hlt]
   refine Zfx (fun k hk hW => ?_) n (Nat.le_refl _)
   rw [hl k]
   constructor
   ·rintro (rfl | h2)
    ·exfalso
     apply hW.2
     rw [hs, List.getElem?_set_ne hne]
    ·exact h2
   ·exact .inr
 ·rw [List.getElem?_eq_none (by rw [Zcb]; exact hge), List.getElem?_eq_none (by rw [Zcb]; exact hge)]
  split
  ·rename_i he; subst he; omega
  ·rfl

end

structure RunS (cw : Zz) (lv : List Nat) (s : SepC) (aos : List AOper) (es : Nat → Env) (ss : Nat → Sto) : Prop extends RunD cw lv aos es ss where
 sep : SepOk s aos
 fin : ZeH s (es aos.length) = true

section
variable {P : Program} {bs : Nat} {rd : Option Nat} {cw : Zz} {lv : List Nat} {s : SepC} {aos : List AOper} {es : Nat → Env} {ss : Nat → Sto} {ops : Array Oper}

theorem RunS.stable (h : RunS cw lv s aos es ss) {i t : Nat} (hi : i ≤ aos.length) (hs : stable aos i t = true) : (es aos.length).getD t .und = (es i).getD t .und := by
 have := h.keep (t := t) (i := i) (k := aos.length - i) (by omega) fun j ao h1 h2 h3 h4 => by
  unfold Abs.stable at hs
  have := List.all_eq_true.1 hs j (List.mem_range.2 (by omega))
  simp only [h3, Bool.or_eq_true, decide_eq_true_eq] at this
  rcases this with h5 | h5
  ·omega
  ·rw [h4] at h5; simp at h5
 rwa [show i + (aos.length - i) = aos.length by omega] at this

theorem RunS.kind (h : RunS cw lv s aos es ss) (hP : Z7 P cw) (hops : ∀ (i : Nat) (ao : AOper), aos[i]? = some ao → ∃ o, ops[i]? = some o ∧ OpRel P ops ao o) {i : Nat} {ao : AOper} (hi : aos[i]? = some ao) :
  ss (i + 1) = ss i ∨ (∃ ob, ao.op.makes = true ∧ ss (i + 1) = ss i ++ [ob]) ∨ (ao.op.isW = true ∧ ∃ t o ob, ao.op.tgt = some (.tmp t) ∧ Zbb ((es i).getD t .und) o ∧ o < (ss i).length ∧ ss (i + 1) = (ss i).set o ob) := by
 have hil : i < aos.length := (List.getElem?_eq_some_iff.1 hi).1
 rcases h.step i ao hi with ⟨_, _, hs⟩ | ⟨_, v, _, hs⟩
 ·exact .inl hs
 ·obtain ⟨o, _, hrel⟩ := hops i ao hi
  cases hw : ao.op.isW with
  | true =>
   obtain ⟨h1, t, h2, h3, h4⟩ := h.sep.tgt i ao hi hw
   have hth : ((es i).getD t .und).there = true := by
    have hf := h.fin
    simp only [ZeH, Bool.and_eq_true, List.all_eq_true] at hf
    rw [← h.stable (Nat.le_of_lt hil) h4]
    exact hf.1.1 t h3
   have hst : Zc lv ao.op (es i) (ss i) = some (v, ss (i + 1)) := by
    exact ZcF h1 hs
   rcases Zlj (σh := ss i) (p := fun _ => true) h1 (fun x _ => (by cases ev (es i) x <;> exact AVal.names_true _)) (fun _ _ _ => rfl) (fun x hx => by
    rw [h2] at hx; obtain rfl := Option.some.inj hx; exact hth) hst with ⟨h5, _⟩ | ⟨o', ob, _, h5, h6, h7, _⟩
   ·exact .inl h5
   ·refine .inr (.inr ⟨rfl, t, o', ob, h2, ?_, h6, h7⟩)
    unfold Zbb
    cases hn : ((es i).getD t .und).names (fun q => decide (q ≠ o')) with
    | false => rfl
    | true =>
     have := h5 (.tmp t) h2 _ hn
     simp at this
  | false =>
   have hu := ZbO hs
   unfold Zaq at hs
   split at hs
   ·rename_i p f args hop
    obtain rfl : p = true := by rw [hop] at hw; simpa [AOp.isW] using hw
    obtain ⟨v', ⟨rfl, he⟩, _⟩ := hP hs
    exact .inl he.symm
   ·rename_i p x args hop
    obtain rfl : p = true := by rw [hop] at hw; simpa [AOp.isW] using hw
    split at hs
    case h_3 => exact hs.elim
    case h_2 => simp at hs
    obtain ⟨v', ⟨rfl, he⟩, _⟩ := hP hs
    exact .inl he.symm
   ·rename_i h1 h2
    have hq := ZoE hw h1 h2
    cases hm : ao.op.makes with
    | true =>
     obtain ⟨ob, h3, _⟩ := ZjB (p := fun _ => true) hm hs
     exact .inr (.inl ⟨ob, rfl, h3⟩)
    | false => exact .inl (ZB hq hm hs)

theorem RunS.grows (h : RunS cw lv s aos es ss) (hP : Z7 P cw) (hops : ∀ (i : Nat) (ao : AOper), aos[i]? = some ao → ∃ o, ops[i]? = some o ∧ OpRel P ops ao o) : ZgJ ss aos.length := by
 intro i hi
 rcases h.kind hP hops (List.getElem?_eq_getElem hi) with h1 | ⟨ob, _, h1⟩ | ⟨_, t, o, ob, _, _, _, h1⟩
 ·rw [h1]; exact Nat.le_refl _
 ·rw [h1]; simp
 ·rw [h1]; simp

theorem RunS.writer (h : RunS cw lv s aos es ss) (hP : Z7 P cw) (hops : ∀ (i : Nat) (ao : AOper), aos[i]? = some ao → ∃ o, ops[i]? = some o ∧ OpRel P ops ao o) {k o : Nat} (hk : k < aos.length) (hW : Wr ss k o) :
  aos[k].op.isW = true ∧ ∃ t, aos[k].op.tgt = some (.tmp t) ∧ Zbb ((es k).getD t .und) o := by
 rcases h.kind hP hops (List.getElem?_eq_getElem hk) with h1 | ⟨ob, _, h1⟩ | ⟨h0, t, o', ob, h2, h3, _, h1⟩
 ·exact absurd (by rw [h1]) hW.2
 ·exact absurd (by rw [h1, List.getElem?_append_left hW.1]) hW.2
 ·refine ⟨h0, t, h2, ?_⟩
  by_cases he : o' = o
  ·rw [← he]; exact h3
  ·exact absurd (by rw [h1, List.getElem?_set_ne he]) hW.2

theorem ZoG {a : AOp} {x : Opd} (h : a.tgt = some x) : x ∈ a.opds := by
 cases a <;> first
  | (simp [AOp.tgt] at h; done)
  | (simp only [AOp.tgt, Option.some.injEq] at h; subst h; simp [AOp.opds])

theorem ZhL (h : RunS cw lv s aos es ss) {i : Nat} (hi : i ≤ aos.length) {ts : List Nat} {x : Opd} {o : Nat} (ha : x.among ts (stable aos i) = true) (hn : Zbb (ev (es i) x) o) : ∃ t ∈ ts, Zbb ((es aos.length).getD t .und) o := by
 cases x with
 | tmp t =>
  simp only [Opd.among, Bool.and_eq_true, List.contains_iff_mem] at ha
  exact ⟨t, ha.1, by rw [h.stable hi ha.2]; exact hn⟩
 | cst v => exact (ZgI ha hn).elim

theorem ZoH {a : AOp} : a.makes' = a.makes := by cases a <;> rfl

theorem RunS.order (h : RunS cw lv s aos es ss) (hP : Z7 P cw) (hops : ∀ (i : Nat) (ao : AOper), aos[i]? = some ao → ∃ o, ops[i]? = some o ∧ OpRel P ops ao o) {listed : Array Bool} (hc : Closed aos listed)
  {i : Nat} {ao : AOper} (hi : aos[i]? = some ao) (hun : listed.getD i false = false) (hall : ∀ e ∈ ao.after, listed.getD e false = true) (hr : ao.op.isReg = false) (hnc : ao.op.isCall' = false) {o : Nat}
  (ht : (∃ x ∈ ao.op.opds, Zbb (ev (es i) x) o) ∨ (ao.op.makes = true ∧ ∀ t, ao.dst = some t → t < (es i).length → Zbb ((es (i + 1)).getD t .und) o)) :
  ∀ k, k < aos.length → Wr ss k o → (k < i ↔ listed.getD k false = true) := by
 intro k hk hW
 have hil : i < aos.length := (List.getElem?_eq_some_iff.1 hi).1
 have hka := List.getElem?_eq_getElem hk
 obtain ⟨hw, t, h1, h2⟩ := h.writer hP hops hk hW
 by_cases hki : k = i
 ·subst hki; rw [hun]; simp
 have hord : ZaR (Zds aos) k i = true → (k < i ↔ listed.getD k false = true) := by
  intro hb
  unfold ZaR at hb
  split at hb
  ·rename_i hlt
   -- i < k
   constructor
   ·intro; omega
   ·intro hl
    have := hc.anc h.ok hka (hc.cl k _ hka hl) hb
    rw [hun] at this; cases this
  ·rename_i hlt
   constructor
   ·intro _; exact hc.anc h.ok hi hall hb
   ·intro _; omega
 rcases h.sep.pair k i _ ao hka hi hki hw hr with hb | ⟨hcall, _⟩ | ⟨_, p, hp, ⟨x1, gx, g1⟩, g2, g3⟩
 ·exact hord hb
 ·rw [hnc] at hcall; cases hcall
 ·exfalso
  have hf := h.fin
  simp only [ZeH, Bool.and_eq_true, List.all_eq_true] at hf
  rw [h1] at gx
  obtain rfl := Option.some.inj gx
  obtain ⟨t1, m1, n1⟩ := ZhL h (Nat.le_of_lt hk) g1 (show Zbb (ev (es k) (.tmp t)) o from h2)
  have h3 : ∃ t2 ∈ p.2, Zbb ((es aos.length).getD t2 .und) o := by
   rcases ht with ⟨x, hx, hn⟩ | ⟨hm, hn⟩
   ·exact ZhL h (Nat.le_of_lt hil) (g2 x hx) hn
   ·obtain ⟨t2, hd, hm2⟩ := g3 (by rw [ZoH]; exact hm)
    refine ⟨t2, hm2, ?_⟩
    have hap := hf.2 p hp t1 m1 t2 hm2
    have hlt : t2 < (es i).length := by
     apply Classical.byContradiction
     intro hge
     have hl := h.len (Nat.le_refl _)
     have hl2 := h.len (Nat.le_of_lt hil)
     rw [show (es aos.length).getD t2 .und = .und by rw [List.getD_eq_getElem?_getD, List.getElem?_eq_none (by omega)]; rfl] at hap
     simp [AVal.apart, AVal.isUnd] at hap
    rw [← h.after hi hd (Nat.lt_succ_self i) (by omega)]
    exact hn t2 hd hlt
  obtain ⟨t2, m2, n2⟩ := h3
  exact ZkC (hf.2 p hp t1 m1 t2 m2) n1 n2


structure SInv (bs : Nat) (aos : List AOper) (es : Nat → Env) (ss : Nat → Sto) (listed : Array Bool) (F : Frz) (L : Lay) (a : Act) (w : World) : Prop where
 cl : Closed aos listed
 env : ZI F L (ZcU aos es listed) a.tmps
 defers : Zau bs w a.defers
 inv : Inv F L (stS ss aos.length listed) w
 ids : ∀ o, L o ≠ .un ↔ o < (ss 0).length ∨ ∃ j, j < aos.length ∧ listed.getD j false = true ∧ (ss j).length ≤ o ∧ o < (ss (j + 1)).length

theorem SInv.finish {listed : Array Bool} {F : Frz} {L : Lay} {a : Act} {w : World} (h : SInv bs aos es ss listed F L a w) {i : Nat} {ao : AOper} (hi : aos[i]? = some ao) (hall : ∀ e ∈ ao.after, listed.getD e false = true)
  {F' : Frz} {L' : Lay} {a' : Act} {w' : World} (henv : ZI F' L' (ZcU aos es (listed.setIfInBounds i true)) a'.tmps) (hd : Zau bs w' a'.defers) (hI : Inv F' L' (stS ss aos.length (listed.setIfInBounds i true)) w')
  (hid : ∀ o, L' o ≠ .un ↔ L o ≠ .un ∨ ((ss i).length ≤ o ∧ o < (ss (i + 1)).length)) : SInv bs aos es ss (listed.setIfInBounds i true) F' L' a' w' := by
 have hil : i < aos.length := (List.getElem?_eq_some_iff.1 hi).1
 have hset : ∀ j, (listed.setIfInBounds i true).getD j false = true ↔ j = i ∨ listed.getD j false = true := by
  intro j
  by_cases hj : i = j
  ·subst hj; simp [h.cl.size, hil]
  ·rw [getD_set_ne false hj]; exact ⟨.inr, fun g => g.resolve_left (fun e => hj e.symm)⟩
 refine ⟨⟨by simp [h.cl.size], fun j aj hj hl e he => ?_⟩, henv, hd, hI, fun o => ?_⟩
 ·rcases (hset j).1 hl with rfl | hl
  ·rw [hi] at hj; obtain rfl := Option.some.inj hj
   exact (hset e).2 (.inr (hall e he))
  ·exact (hset e).2 (.inr (h.cl.cl j aj hj hl e he))
 ·rw [hid, h.ids]
  constructor
  ·rintro ((h1 | ⟨j, h1, h2, h3⟩) | h1)
   ·exact .inl h1
   ·exact .inr ⟨j, h1, (hset j).2 (.inr h2), h3⟩
   ·exact .inr ⟨i, hil, (hset i).2 (.inl rfl), h1⟩
  ·rintro (h1 | ⟨j, h1, h2, h3⟩)
   ·exact .inl (.inl h1)
   ·rcases (hset j).1 h2 with rfl | h2
    ·exact .inr h3
    ·exact .inl (.inr ⟨j, h1, h2, h3⟩)

open Classical in
theorem SInv.step {listed : Array Bool} {F : Frz} {L : Lay} {a : Act} {w : World} (h : SInv bs aos es ss listed F L a w) (hR : RunS cw lv s aos es ss) (hX : ZjC cw) (hP : Z7 P cw)
  (hops : ∀ (i : Nat) (ao : AOper), aos[i]? = some ao → ∃ o, ops[i]? = some o ∧ OpRel P ops ao o) {i : Nat} (hi : i ∈ Region.ready .any ops listed) (hsz : ops.size = aos.length)
  {next : Act → World → Prop} {Q : Exit → Act → World → Prop} (hK : ∀ F' L' a' w', SInv bs aos es ss (listed.setIfInBounds i true) F' L' a' w' → Adv F L w F' L' w' → next a' w') : wpOpIn (Fr rd) 0 P ops Q i next a w := by
 obtain ⟨hun', o, ho, hbind⟩ := mem_ready.1 hi
 have hun := ZgL hun'
 have hil : i < aos.length := by rw [← hsz]; exact (Array.getElem?_eq_some_iff.1 ho).1
 have hao := List.getElem?_eq_getElem hil
 generalize aos[i] = ao at hao
 obtain ⟨o', ho', hrel⟩ := hops i ao hao
 obtain rfl : o = o' := Option.some.inj (ho.symm.trans ho')
 have hall : ∀ e ∈ ao.after, listed.getD e false = true := by
  intro e he
  rw [hrel.after] at he
  simp only [List.mem_map, List.mem_filter, Array.mem_toList_iff] at he
  obtain ⟨x, ⟨h1, h2⟩, rfl⟩ := he
  exact hbind x h1 h2
 have hG := hR.grows hP hops
 have hset : ∀ j, (listed.setIfInBounds i true).getD j false = true ↔ j = i ∨ listed.getD j false = true := by
  intro j
  by_cases hj : i = j
  ·subst hj; simp [h.cl.size, hil]
  ·rw [getD_set_ne false hj]; exact ⟨.inr, fun g => g.resolve_left (fun e => hj e.symm)⟩
 have hsame : (∀ o, ¬ Wr ss i o) → stS ss aos.length (listed.setIfInBounds i true) = stS ss aos.length listed := fun hn => ZoF fun o k hk hW => by
  rw [hset k]
  exact ⟨fun g => g.resolve_left (fun e => by subst e; exact hn o hW), .inr⟩
 -- what it reads
 have hrd := fun t ht => hR.reads h.cl hao hun hall (t := t) ht
 have hreads : ∀ x ∈ o.op.operands.toList, Zaf F L (es i) a.eval x := by
  intro x hx y hy
  cases x with
  | tmp t =>
   simp only [ZR, Option.some.injEq] at hy
   subst hy
   have ht : ao.looks t = true := by
    have : t ∈ ao.reads := by rw [hrel.reads]; exact List.mem_filterMap.2 ⟨_, hx, rfl⟩
    simp [AOper.looks, this]
   have := h.env.reads h.inv.gl (a := a) (.tmp t) (.tmp t) rfl
   simp only [ev, List.getD_eq_getElem?_getD, hrd t ht] at this ⊢
   exact this
  | const v =>
   have := h.env.reads h.inv.gl (a := a) _ y hy
   simp only [ZR, Option.map_eq_some_iff] at hy
   obtain ⟨z, _, rfl⟩ := hy
   exact this
  | func f =>
   have := h.env.reads h.inv.gl (a := a) _ y hy
   simp only [ZR] at hy
   split at hy
   ·simp only [Option.some.injEq] at hy
    subst hy
    exact this
   ·simp at hy
  | global g =>
   have := h.env.reads h.inv.gl (a := a) _ y hy
   simp only [ZR, Option.map_eq_some_iff] at hy
   obtain ⟨z, _, rfl⟩ := hy
   exact this
 have hwant : ∀ b, ZN ao (es i) = some b → Region.wanted o (yielded ops a.tmps) = b := fun b hb =>
  ZaZ h.env hrel.guard (by rw [ZfN hrd]; exact hb)
 have hdef : ∀ {F' : Frz} {L' : Lay} {w' : World}, Adv F L w F' L' w' → ∀ cv, Zau bs w' (a.put o.dst cv).defers := fun hA cv => by rw [Act.put_defers]; exact h.defers.adv h.inv hA
 have hput : ∀ {v : AVal} {cv : Value} {F' : Frz} {L' : Lay} {w' : World}, es (i + 1) = put (es i) ao.dst v → VRel F' L' v cv → Adv F L w F' L' w' → ZI F' L' (ZcU aos es (listed.setIfInBounds i true)) (a.put o.dst cv).tmps := fun {v cv F' L' w'} he hv hA => by
  rw [hR.envS_put h.cl.size hao he, hrel.dst]
  exact (h.env.mono hA.frz hA.evo).put hv
 have hids0 : ss (i + 1) = ss i → ∀ {L' : Lay}, (∀ o, L' o ≠ .un ↔ L o ≠ .un) → ∀ o, L' o ≠ .un ↔ L o ≠ .un ∨ ((ss i).length ≤ o ∧ o < (ss (i + 1)).length) := fun hs {L'} hl o => by
  rw [hl o]; exact ⟨.inl, fun g => g.elim id fun g => by rw [hs] at g; omega⟩
 have hnW : ss (i + 1) = ss i → ∀ o, ¬ Wr ss i o := fun hs o hW => hW.2 (by rw [hs])
 unfold wpOpIn
 simp only [ho]
 rcases hR.step i ao hao with ⟨hw, he, hs⟩ | ⟨hw, v, he, hs⟩
 ·rw [if_neg (by rw [hwant _ hw]; simp)]
  refine ⟨fun _ _ => trivial, ?_⟩
  exact hK _ _ _ _ (h.finish hao hall (hput he Zb0 (Adv.refl F L w)) (hdef (Adv.refl F L w) undef) (by rw [hsame (hnW hs)]; exact h.inv) (hids0 hs fun o => Iff.rfl)) (Adv.refl F L w)
 ·rw [if_pos (hwant _ hw)]
  have hc := Zdx hrel.op (ZbO hs)
  -- the objects that it looks at stand as in the text's order
  let p : Nat → Bool := fun o => decide (o < (ss i).length → (stS ss aos.length listed)[o]? = (ss i)[o]?)
  have hag : ∀ o, p o = true → o < (ss i).length → (stS ss aos.length listed)[o]? = (ss i)[o]? := fun o hp => of_decide_eq_true hp
  have hp : ao.op.isReg = false → ao.op.isCall' = false → ∀ x ∈ ao.op.opds, (ev (es i) x).names p = true := fun hr hnc x hx => by
   refine ZoD _ fun o hn => decide_eq_true fun hlt => ?_
   rw [Zcw hG (by have := hG.le (i := i) (j := aos.length) (by omega) (Nat.le_refl _); omega)]
   exact ZhK hG (by omega) hlt (hR.order hP hops h.cl hao hun hall hr hnc (.inl ⟨x, hx, hn⟩))
  cases hW : ao.op.isW with
  | true =>
   obtain ⟨h1, t, h2, h3, h4⟩ := hR.sep.tgt i ao hao hW
   have hth : ((es i).getD t .und).there = true := by
    have hf := hR.fin
    simp only [ZeH, Bool.and_eq_true, List.all_eq_true] at hf
    rw [← hR.stable (Nat.le_of_lt hil) h4]
    exact hf.1.1 t h3
   have hnc : ao.op.isCall' = false := by revert h1; cases ao.op <;> intro h1 <;> first | rfl | simp [AOp.setter] at h1
   have hreg := ZeU hW
   have hst : Zc lv ao.op (es i) (ss i) = some (v, ss (i + 1)) := by
    exact ZcF h1 hs
   have hncl : ao.op.isCall = false := by revert h1; cases ao.op <;> intro h1 <;> first | rfl | simp [AOp.setter] at h1
   rw [Zgj hncl] at hc
   have go : ∀ {τ : Sto}, Zc lv ao.op (es i) (stS ss aos.length listed) = some (v, τ) → τ.length = (ss aos.length).length → stS ss aos.length (listed.setIfInBounds i true) = τ → (ss (i + 1)).length = (ss i).length → o.wpIn (Fr rd) 0 P a w next Q := fun {τ} g1 gl g2 g3 => by
    obtain ⟨w', F', L', hres, hI', hA, hids⟩ := Ziw hc hncl g1 h.inv (ZaQ a) hreads
    have hid : ∀ o, L' o ≠ .un ↔ L o ≠ .un ∨ ((ss i).length ≤ o ∧ o < (ss (i + 1)).length) := fun o => by
     rw [hids o, Zcb, gl, g3]
     constructor
     ·rintro (g | g)
      ·exact .inl g
      ·omega
     ·rintro (g | g)
      ·exact .inl g
      ·omega
    rcases hres with ⟨cv, hrun, hv⟩ | ⟨hrun, rfl⟩
    ·exact Zbp (Zar hc) hrun (hK _ _ _ _ (h.finish hao hall (hput he hv hA) (hdef hA cv) (by rw [g2]; exact hI') hid) hA)
    ·exact ZgC (Zar hc) hrun (hK _ _ _ _ (h.finish hao hall (hput he .und hA) (hdef hA undef) (by rw [g2]; exact hI') hid) hA)
   rcases Zlj (σh := stS ss aos.length listed) (p := p) h1 (hp hreg hnc) hag (fun x hx => by
    rw [h2] at hx; obtain rfl := Option.some.inj hx; exact hth) hst with ⟨h5, h6⟩ | ⟨o', ob, _, h5, h6, h7, h8⟩
   ·exact go h6 Zcb (hsame (hnW h5)) (by rw [h5])
   ·refine go h8 (by rw [List.length_set, Zcb]) ?_ (by rw [h7, List.length_set])
    have hnm : Zbb ((es i).getD t .und) o' := by
     unfold Zbb
     cases hn : ((es i).getD t .und).names (fun q => decide (q ≠ o')) with
     | false => rfl
     | true =>
      have := h5 (.tmp t) h2 _ hn
      simp at this
    exact ZpW hG hil h6 h7 hset hun (hR.order hP hops h.cl hao hun hall hreg hnc (.inl ⟨_, ZoG h2, hnm⟩))
  | false =>
   have hq : ∀ {σ1 σ2 : Sto} (_ : Zaq cw lv ao.op (es i) σ1 v σ2) (_ : ∀ new, σ2 = σ1 ++ new → ao.op.isReg = true ∨ Watch L σ1 new (stS ss aos.length listed)) (_ : ∀ new, σ2 = σ1 ++ new → ∀ o, ZT σ1.length new.length o ↔ ((ss i).length ≤ o ∧ o < (ss (i + 1)).length))
     (_ : ∀ o, ¬ Wr ss i o), o.wpIn (Fr rd) 0 P a w next Q := fun {σ1 σ2} g1 g2 g3 g4 => by
    obtain ⟨new, hn, _, hqq⟩ := Ziy hP hc hW g1
    refine hqq h.inv (g2 new hn) hreads fun cv F' L' w' hv hI hA hid => ?_
    refine hK _ _ _ _ (h.finish hao hall (hput he hv hA) (hdef hA cv) (by rw [hsame g4]; exact hI) fun o => ?_) hA
    rw [hid o, g3 new hn o]
   have hstill : ∀ {σ1 : Sto}, Zaq cw lv ao.op (es i) σ1 v σ1 → ss (i + 1) = ss i → (ao.op.isReg = true ∨ (∀ x, x < σ1.length → (stS ss aos.length listed)[x]? = σ1[x]?)) → o.wpIn (Fr rd) 0 P a w next Q := fun {σ1} g1 g2 g3 => by
    have hnil : ∀ {new : Sto}, σ1 = σ1 ++ new → new = [] := fun {new} e => by
     have := congrArg List.length e
     simp at this
     exact this
    refine hq g1 (fun new e => ?_) (fun new e o => ?_) (hnW g2)
    ·rw [hnil e]
     exact g3.imp id fun g => ⟨g, fun x ob hx => by simp at hx⟩
    ·rw [hnil e, g2]
     constructor
     ·intro g; exact absurd g (Zd _ _)
     ·intro g; omega
   cases hreg : ao.op.isReg with
   | true =>
    have hss := hR.kind hP hops hao
    have h1 : ss (i + 1) = ss i := by
     rcases hss with g | ⟨ob, g, _⟩ | ⟨g, _⟩
     ·exact g
     ·exfalso; revert g hreg; cases ao.op <;> simp [AOp.isReg, AOp.makes]
     ·rw [hW] at g; cases g
    rw [h1] at hs
    exact hstill hs h1 (.inl hreg)
   | false =>
    cases hcall : ao.op.isCall' with
    | true =>
     -- a pure call
     have hpure : ∀ {f : FuncId} {args : List AVal}, cw true f args lv (ss i) (fun v' σ'' => v' = v ∧ σ'' = ss (i + 1)) → ss (i + 1) = ss i := fun g => by
      obtain ⟨v', ⟨_, e⟩, _⟩ := hP g; exact e.symm
     by_cases hord : ∀ k (hk : k < aos.length), aos[k].op.isW = true → ZaR (Zds aos) k i = true
     ·-- after and ZaR all writes as in the text
      have hagr : ∀ x, x < (ss i).length → (stS ss aos.length listed)[x]? = (ss i)[x]? := fun x hx => by
       rw [Zcw hG (by have := hG.le (i := i) (j := aos.length) (by omega) (Nat.le_refl _); omega)]
       refine ZhK hG (by omega) hx fun k hk hWr => ?_
       obtain ⟨hkw, _⟩ := hR.writer hP hops hk hWr
       have hb := hord k hk hkw
       have hki : k ≠ i := fun e => by subst e; rw [List.getElem?_eq_getElem hk] at hao; obtain rfl := Option.some.inj hao; rw [hW] at hkw; cases hkw
       unfold ZaR at hb
       split at hb
       ·constructor
        ·intro; omega
        ·intro hl
         have := h.cl.anc hR.ok (List.getElem?_eq_getElem hk) (h.cl.cl k _ (List.getElem?_eq_getElem hk) hl) hb
         rw [hun] at this; cases this
       ·exact ⟨fun _ => h.cl.anc hR.ok hao hall hb, fun _ => by omega⟩
      have h1 : ss (i + 1) = ss i := by
       unfold Zaq at hs
       split at hs
       ·rename_i p f args hop
        obtain rfl : p = true := by rw [hop] at hW; simpa [AOp.isW] using hW
        exact hpure hs
       ·rename_i p x args hop
        obtain rfl : p = true := by rw [hop] at hW; simpa [AOp.isW] using hW
        split at hs
        ·exact hpure hs
        ·simp at hs
        ·exact hs.elim
       ·rename_i g1 g2
        exfalso
        revert hcall
        cases hop : ao.op <;> simp [AOp.isCall'] <;> first | exact g1 _ _ _ hop | exact g2 _ _ _ hop
      rw [h1] at hs
      exact hstill hs h1 (.inr hagr)
     ·-- its arguments name nothing
      have hps : ∀ x ∈ ao.op.opds, (ev (es i) x).pure = true := by
       obtain ⟨k, hk⟩ := Classical.not_forall.1 hord
       obtain ⟨hkl, hk⟩ := Classical.not_forall.1 hk
       obtain ⟨hkw, hk⟩ := Classical.not_forall.1 hk
       have hki : k ≠ i := fun e => by subst e; rw [List.getElem?_eq_getElem hkl] at hao; obtain rfl := Option.some.inj hao; rw [hW] at hkw; cases hkw
       rcases hR.sep.pair k i _ ao (List.getElem?_eq_getElem hkl) hao hki hkw hreg with g | ⟨_, g⟩ | ⟨g, _⟩
       ·exact absurd g hk
       ·intro x hx
        have hx' := g x hx
        cases x with
        | tmp t =>
         simp only [Opd.among, Bool.and_eq_true, List.contains_iff_mem] at hx'
         have hf := hR.fin
         simp only [ZeH, Bool.and_eq_true, List.all_eq_true] at hf
         show ((es i).getD t .und).pure = true
         rw [← hR.stable (Nat.le_of_lt hil) hx'.2]
         exact hf.1.2 t hx'.1
        | cst u => exact hx'
       ·rw [hcall] at g; cases g
      have hpl : ∀ (l : List Opd), (∀ x ∈ l, (ev (es i) x).pure = true) → AVal.pures (l.map (ev (es i))) = true := by
       intro l
       induction l with
       | nil => intro _; rfl
       | cons x l ih => intro g; simp only [List.map_cons, AVal.pures, AVal.namesL, Bool.and_eq_true]; exact ⟨g x (by simp), ih fun y hy => g y (by simp [hy])⟩
      have hst : Zaq cw lv ao.op (es i) (stS ss aos.length listed) v (stS ss aos.length listed) ∧ ss (i + 1) = ss i := by
       unfold Zaq at hs ⊢
       split at hs
       ·rename_i p f args hop
        obtain rfl : p = true := by rw [hop] at hW; simpa [AOp.isW] using hW
        rw [hop] at hps
        exact ⟨hX hs (hpl _ hps) fun v' hv' => ⟨hv'.1, rfl⟩, hpure hs⟩
       ·rename_i p x args hop
        obtain rfl : p = true := by rw [hop] at hW; simpa [AOp.isW] using hW
        rw [hop] at hps
        split at hs
        case h_3 => exact hs.elim
        case h_2 => simp at hs
        rename_i f first captured hx
        have hpx := hps x (by simp [AOp.opds])
        rw [hx] at hpx
        simp only [AVal.names, Bool.and_eq_true] at hpx
        have hpa : AVal.pures (first ++ args.map (ev (es i)) ++ captured) = true := by
         simp only [AVal.pures, ZaI, Bool.and_eq_true]
         exact ⟨⟨hpx.1, hpl _ fun y hy => hps y (by simp [AOp.opds, hy])⟩, hpx.2⟩
        exact ⟨hX hs hpa fun v' hv' => ⟨hv'.1, rfl⟩, hpure hs⟩
       ·rename_i g1 g2
        exfalso
        revert hcall
        cases hop : ao.op <;> simp [AOp.isCall'] <;> first | exact g1 _ _ _ hop | exact g2 _ _ _ hop
      exact hstill hst.1 hst.2 (.inr fun _ _ => rfl)
    | false =>
     have hnc : (∀ p f args, ao.op ≠ .call p f args) ∧ ∀ p x args, ao.op ≠ .callv p x args := ⟨fun p f args e => by rw [e] at hcall; simp [AOp.isCall'] at hcall, fun p x args e => by rw [e] at hcall; simp [AOp.isCall'] at hcall⟩
     have hof : ∀ {σ1 σ2 : Sto}, Zc lv ao.op (es i) σ1 = some (v, σ2) → Zaq cw lv ao.op (es i) σ1 v σ2 := fun {σ1 σ2} g => by
      unfold Zaq
      split
      ·rename_i hop; exact absurd hop (hnc.1 _ _ _)
      ·rename_i hop; exact absurd hop (hnc.2 _ _ _)
      ·exact g
     have hst : Zc lv ao.op (es i) (ss i) = some (v, ss (i + 1)) := by
      unfold Zaq at hs
      split at hs
      ·rename_i hop; exact absurd hop (hnc.1 _ _ _)
      ·rename_i hop; exact absurd hop (hnc.2 _ _ _)
      ·exact hs
     have hQ := ZoE hW hnc.1 hnc.2
     cases hm : ao.op.makes with
     | true =>
      obtain ⟨ob, g1, g2, g3⟩ := ZjB (p := fun q => decide (q ≠ (ss i).length)) hm hst
      have hle : (ss i).length < (ss aos.length).length := by
       have := hG.le (i := i + 1) (j := aos.length) (by omega) (Nat.le_refl _)
       rw [g1] at this; simp at this; omega
      have htl : ((stS ss aos.length listed).take (ss i).length).length = (ss i).length := by rw [List.length_take, Zcb]; omega
      have hnamed : Zbb v (ss i).length := by
       unfold Zbb
       cases hn : v.names (fun q => decide (q ≠ (ss i).length)) with
       | false => rfl
       | true => have := g2 hn; simp at this
      refine hq (hof (g3 htl)) (fun new e => .inr ?_) (fun new e o => ?_) (fun o hWr => ?_)
      ·obtain rfl := List.append_cancel_left e
       refine ⟨fun x hx => ?_, fun x ob' hx => ?_⟩
       ·rw [htl] at hx
        rw [List.getElem?_take, if_pos hx]
       ·obtain ⟨rfl, rfl⟩ : x = 0 ∧ ob' = ob := by
         cases x with
         | zero => simp at hx; exact ⟨rfl, hx.symm⟩
         | succ x => simp at hx
        rw [htl, Nat.add_zero]
        constructor
        ·rw [Zcw hG hle]
         have := ZhK (listed := listed) hG (i := i + 1) (o := (ss i).length) (by omega) (by rw [g1]; simp) fun k hk hWr => by
          have hord := hR.order hP hops h.cl hao hun hall hreg hcall (.inr ⟨hm, fun t ht hlt => by
           rw [he, ht]
           simp only [put, List.getD_eq_getElem?_getD, List.getElem?_set_self hlt, Option.getD_some]
           exact hnamed⟩) k hk hWr
          have hki : k ≠ i := fun e => by subst e; have := hWr.1; omega
          constructor
          ·intro g; exact hord.1 (by omega)
          ·intro g; have := hord.2 g; omega
         rw [this, g1]; simp
        ·apply Classical.byContradiction
         intro hne
         rcases (h.ids _).1 hne with g4 | ⟨j, j1, j2, j3, j4⟩
         ·have := hG.le (i := 0) (j := i) (by omega) (by omega); omega
         ·rcases Nat.lt_trichotomy j i with hj | rfl | hj
          ·have := hG.le (i := j + 1) (j := i) (by omega) (by omega); omega
          ·rw [hun] at j2; cases j2
          ·have := hG.le (i := i + 1) (j := j) (by omega) (by omega)
           rw [g1, List.length_append] at this; simp at this; omega
      ·obtain rfl := List.append_cancel_left e
       rw [htl, g1, List.length_append]
       exact Iff.rfl
      ·exact hWr.2 (by rw [g1, List.getElem?_append_left hWr.1])
     | false =>
      have h1 : ss (i + 1) = ss i := ZB hQ hm hst
      exact hstill (hof (Zmh hQ hm (hp hreg hcall) hag hst)) h1 (.inr fun _ _ => rfl)


theorem SInv.all (hR : RunS cw lv s aos es ss) (hX : ZjC cw) (hP : Z7 P cw)
  (hops : ∀ (i : Nat) (ao : AOper), aos[i]? = some ao → ∃ o, ops[i]? = some o ∧ OpRel P ops ao o) (hsz : ops.size = aos.length) {Q : Exit → Act → World → Prop} :
  ∀ (f : Nat) {listed : Array Bool} {F : Frz} {L : Lay} {a : Act} {w : World}, SInv bs aos es ss listed F L a w →
   (∀ listed' F' L' a' w', SInv bs aos es ss listed' F' L' a' w' → Region.ready .any ops listed' = [] → Adv F L w F' L' w' → Q .normal a' w') →
   listed.toList.countP (!·) = f → wpAnyIn (Fr rd) 0 P .any ops Q f listed a w := by
 intro f
 induction f with
 | zero =>
  intro listed F L a w h hK hf
  have hr : Region.ready .any ops listed = [] := by
   apply List.eq_nil_iff_forall_not_mem.2
   intro i hi
   have := (mem_ready.1 hi).1
   have hlt : i < listed.size := by
    apply Classical.byContradiction
    intro hge
    rw [Array.getD_eq_getD_getElem?, Array.getElem?_eq_none (by omega)] at this; simp at this
   rw [List.countP_eq_zero] at hf
   have h1 := hf listed[i] (by simp)
   rw [Array.getD_eq_getD_getElem?, Array.getElem?_eq_getElem hlt] at this
   simp at this h1
   rw [this] at h1; cases h1
  exact ⟨hr, hK _ _ _ _ _ h hr (Adv.refl F L w)⟩
 | succ f ih =>
  intro listed F L a w h hK hf
  refine ⟨fun hr => hK _ _ _ _ _ h hr (Adv.refl F L w), fun i hi => ?_⟩
  refine h.step hR hX hP hops hi hsz fun F' L' a' w' hD hA => ?_
  refine ih hD (fun l2 F2 L2 a2 w2 g1 g2 g3 => hK _ _ _ _ _ g1 g2 (hA.trans g3)) ?_
  have hun := (mem_ready.1 hi).1
  have hlt : i < listed.toList.length := by
   apply Classical.byContradiction
   intro hge
   rw [Array.getD_eq_getD_getElem?, Array.getElem?_eq_none (by simpa using hge)] at hun; simp at hun
  have hli : listed.toList[i] = false := by
   rw [Array.getD_eq_getD_getElem?, Array.getElem?_eq_getElem (by simpa using hlt)] at hun
   simpa using hun
  rw [Array.toList_setIfInBounds, List.countP_set hlt, hli, hf]
  simp

theorem RunS.lvs (h : RunS cw lv s aos es ss) (hP : Z7 P cw) (h0 : ZaH lv (ss 0)) : ∀ i, i ≤ aos.length → ZaH lv (ss i)
 | 0, _ => h0
 | i + 1, hi => by
  have ih := h.lvs hP h0 i (by omega)
  have hao := List.getElem?_eq_getElem (show i < aos.length by omega)
  rcases h.step i _ hao with ⟨_, _, hs⟩ | ⟨_, v, _, hs⟩
  ·rw [hs]; exact ih
  ·cases hw : aos[i].op.isW with
   | true =>
    obtain ⟨h1, _⟩ := h.sep.tgt i _ hao hw
    exact Zf7 (ZcF h1 hs) ih
   | false =>
    unfold Zaq at hs
    split at hs
    ·rename_i p f args hop
     obtain rfl : p = true := by rw [hop] at hw; simpa [AOp.isW] using hw
     obtain ⟨v', ⟨rfl, he⟩, _⟩ := hP hs
     rw [← he]; exact ih
    ·rename_i p x args hop
     obtain rfl : p = true := by rw [hop] at hw; simpa [AOp.isW] using hw
     split at hs
     case h_3 => exact hs.elim
     case h_2 => simp at hs
     obtain ⟨v', ⟨rfl, he⟩, _⟩ := hP hs
     rw [← he]; exact ih
    ·exact Zf7 hs ih

theorem Zmi {cw : Zz} (hD : Det cw) (hX : ZjC cw) (hP : Z7 P cw) {lv : List Nat} {s : SepC} {ops : Array Oper} {aos : List AOper} (hm : P.follows .mixedOrders = true) (hsz : ops.size = aos.length)
  (hops : ∀ (i : Nat) (ao : AOper), aos[i]? = some ao → ∃ o, ops[i]? = some o ∧ OpRel P ops ao o) (hok : Zlc s aos = true) {id : Nat} {e : Env} {σ : Sto} {K : Env → Sto → Prop} (h : Zu cw lv aos e σ fun e' σ' => ZeH s e' = true ∧ K e' σ')
  {F : Frz} {L : Lay} {a : Act} {w : World} (hR : CRel bs F L lv e σ a w) {Q : Exit → Act → World → Prop} (hK : ∀ e' σ' F' L' a' w', K e' σ' → CRel bs F' L' lv e' σ' a' w' → Adv F L w F' L' w' → Q .normal a' w') : (Code.region id ops true).wpIn (Fr rd) 0 P Q a w := by
 obtain ⟨es, ss, rfl, rfl, hstep, hfin, hk⟩ := ZgK hD aos h
 have hRun : RunS cw lv s aos es ss := ⟨⟨hstep, (Zhz hok).toDrawBase⟩, Zhz hok, hfin⟩
 have hG := hRun.grows hP hops
 have hfalse : ∀ j, (Array.replicate ops.size false).getD j false = false := fun j => by
  rw [Array.getD_eq_getD_getElem?, Array.getElem?_replicate]; split <;> rfl
 have hAd : Adv F L w F L { w with drawn := w.drawn + 1 } := ⟨Frz.Le.refl F, Evo.refl L, rfl, rfl, rfl, Nat.le_refl _, fun _ _ h => h, fun _ _ _ => rfl, fun _ _ _ => ⟨fun _ => rfl, rfl⟩⟩
 refine wpIn_region_any hm ?_
 have hinv0 : Inv F L (ss 0) { w with drawn := w.drawn + 1 } :=
  ⟨fun b off v h => by have := hR.inv.fz b off v h; rwa [← World.cell?_heap (w := w) (w' := { w with drawn := w.drawn + 1 }) rfl] at this, hR.inv.fm, fun o loc gen h => let ⟨ob, h1, h2⟩ := hR.inv.obj o loc gen h; ⟨ob, h1, h2.mono (Frz.Le.refl F) (Evo.refl L) fun b hb => rfl⟩, hR.inv.lt, hR.inv.inj, hR.inv.sep, hR.inv.dd, hR.inv.gl⟩
 have h0 : SInv bs aos es ss (Array.replicate ops.size false) F L a { w with drawn := w.drawn + 1 } := by
  refine ⟨⟨by simp [hsz], fun j ao _ hl => by rw [hfalse] at hl; cases hl⟩, ?_, hR.defers, ?_, fun o => ?_⟩
  ·have : ZcU aos es (Array.replicate ops.size false) = es 0 := by
    apply List.ext_getElem?
    intro t
    refine Za3 Zas fun hlt => ?_
    rw [Zas] at hlt
    rw [Zcj hlt, if_neg, Zb1 hlt]
    rintro ⟨j, ao, h1, _⟩
    rw [hfalse] at h1; cases h1
   rw [this]; exact hR.env
  ·refine hinv0.extend (fun x hx => ?_) (by rw [Zcb]; exact hG.le (Nat.zero_le _) (Nat.le_refl _))
   rw [Zcw hG (by have := hG.le (i := 0) (j := aos.length) (Nat.zero_le _) (Nat.le_refl _); omega)]
   exact ZhK hG (i := 0) (Nat.zero_le _) hx fun k _ _ => by rw [hfalse]; simp
  ·constructor
   ·intro ho; exact .inl (hinv0.lt o ho)
   ·rintro (h1 | ⟨j, _, h3, _⟩)
    ·exact hR.full o h1
    ·rw [hfalse] at h3; cases h3
 refine SInv.all hRun hX hP hops hsz _ h0 (fun listed' F' L' a' w' hI hr hA => ?_) (by simp [List.countP_replicate])
 -- at the end all are listed
 have hlist : ∀ (i : Nat), i < aos.length → listed'.getD i false = true := by
  intro i
  induction i using Nat.strongRecOn with
  | _ i ih =>
  intro hil
  apply Classical.byContradiction
  intro hne
  have hao := List.getElem?_eq_getElem hil
  obtain ⟨o, ho, hrel⟩ := hops i _ hao
  have : i ∈ Region.ready .any ops listed' := by
   refine mem_ready.2 ⟨?_, o, ho, fun x hx hb => ?_⟩
   ·have hlt : i < listed'.size := by rw [hI.cl.size]; exact hil
    rw [Array.getD_eq_getD_getElem?, Array.getElem?_eq_getElem hlt] at hne ⊢
    simpa using hne
   ·have hmem : x.on ∈ aos[i].after := by
     rw [hrel.after]; exact List.mem_map.2 ⟨x, List.mem_filter.2 ⟨by simpa using hx, hb⟩, rfl⟩
    have hlt := hRun.ok.lt i _ hao _ hmem
    exact ih _ hlt (by omega)
  rw [hr] at this; cases this
 have hst : stS ss aos.length listed' = ss aos.length := by
  apply List.ext_getElem?
  intro o
  rcases Nat.lt_or_ge o (ss aos.length).length with hlt | hge
  ·rw [Zcw hG hlt]
   exact ZhK hG (Nat.le_refl _) hlt fun k hk _ => ⟨fun _ => hlist k hk, fun _ => hk⟩
  ·rw [List.getElem?_eq_none (by rw [Zcb]; exact hge), List.getElem?_eq_none hge]
 refine hK _ _ _ _ _ _ hk ⟨?_, hI.defers, hst ▸ hI.inv, fun o ho => ?_, hRun.lvs hP hR.lv _ (Nat.le_refl _)⟩ (hAd.trans hA)
 ·have : ZcU aos es listed' = es aos.length := by
   apply List.ext_getElem?
   intro t
   refine Za3 (by rw [Zas, hRun.len (Nat.le_refl _)]) fun hlt => ?_
   rw [Zas] at hlt
   rw [Zcj hlt, Zb1 (by rw [hRun.len (Nat.le_refl _)]; exact hlt)]
   congr 1
   split
   ·rfl
   ·rename_i hnw
    exact (hRun.first (Nat.le_refl _) fun j aj hj haj hd => hnw ⟨j, aj, hlist j hj, haj, hd⟩).symm
  rw [← this]; exact hI.env
 ·rw [hI.ids]
  rcases Nat.lt_or_ge o (ss 0).length with hlt | hge
  ·exact .inl hlt
  ·right
   have key : ∀ (d : Nat), d ≤ aos.length → o < (ss d).length → ∃ j, j < aos.length ∧ (ss j).length ≤ o ∧ o < (ss (j + 1)).length := by
    intro d
    induction d with
    | zero => intro _ h2; omega
    | succ d ih =>
     intro h1 h2
     rcases Nat.lt_or_ge o (ss d).length with h3 | h3
     ·exact ih (by omega) h3
     ·exact ⟨d, by omega, h3, h2⟩
   obtain ⟨j, j1, j2, j3⟩ := key aos.length (Nat.le_refl _) ho
   exact ⟨j, j1, hlist j j1, j2, j3⟩

end
end Go.Abs
/- A region that runs in any order, where either of two operations may come first: both orders are walked. -/
namespace Go.Abs
open Go
variable [Inhabited Glob] [Lps]

inductive OrdF (ops : Array Oper) : Nat → Array Bool → List Nat → Prop
 | nil {f : Nat} {listed : Array Bool} : Region.ready .any ops listed = [] → OrdF ops f listed []
 | cons {f : Nat} {listed : Array Bool} {i : Nat} {s : List Nat} : i ∈ Region.ready .any ops listed → OrdF ops f (listed.setIfInBounds i true) s → OrdF ops (f + 1) listed (i :: s)

section
variable {P : Program} {bs : Nat} {rd : Option Nat} {ops : Array Oper} {Q : Exit → Act → World → Prop}

theorem ZdC : ∀ {s : List Nat} {f : Nat} {listed : Array Bool} {a : Act} {w : World}, OrdF ops f listed s → wpAnyIn (Fr rd) 0 P .any ops Q f listed a w → wpOpsIn (Fr rd) 0 P ops Q s a w
 | [], f, listed, a, w, ho, h => by
  cases ho with
  | nil hr =>
   cases f with
   | zero => exact h.2
   | succ f => exact h.1 hr
 | i :: s, f, listed, a, w, ho, h => by
  cases ho with
  | cons hi ho =>
   rw [wpOpsIn_cons]
   exact wpOpIn_mono (fun a w h => ZdC ho h) (h.2 i hi)

theorem ZgN {listed : Array Bool} {i : Nat} (h : i ∈ Region.ready .any ops listed) : i < listed.size := by
 have := (mem_ready.1 h).1
 apply Classical.byContradiction
 intro hge
 rw [Array.getD_eq_getD_getElem?, Array.getElem?_eq_none (by omega)] at this; simp at this

theorem Zll : ∀ (f t : Nat) (listed : Array Bool), listed.toList.countP (!·) = f → OrdF ops f listed (Region.linearise.go .any ops f t listed [])
 | 0, t, listed, hf => by
  simp only [Region.linearise.go, List.reverse_nil]
  refine .nil (List.eq_nil_iff_forall_not_mem.2 fun i hi => ?_)
  have hlt := ZgN hi
  have := (mem_ready.1 hi).1
  rw [List.countP_eq_zero] at hf
  have h1 := hf listed[i] (by simp)
  rw [Array.getD_eq_getD_getElem?, Array.getElem?_eq_getElem hlt] at this
  simp at this h1
  rw [this] at h1; cases h1
 | f + 1, t, listed, hf => by
  simp only [Region.linearise.go]
  change OrdF ops (f + 1) listed (match (Region.ready .any ops listed)[t % (Region.ready .any ops listed).length]? with
   | some i => Region.linearise.go .any ops f (t / (Region.ready .any ops listed).length) (listed.setIfInBounds i true) [i]
   | none => [].reverse)
  cases hi : (Region.ready .any ops listed)[t % (Region.ready .any ops listed).length]? with
  | none =>
   have hnil : Region.ready .any ops listed = [] := by
    cases hr : Region.ready .any ops listed with
    | nil => rfl
    | cons x xs =>
     rw [hr] at hi
     have hlt : t % (x :: xs).length < (x :: xs).length := Nat.mod_lt _ (by simp)
     simp at hi
     simp at hlt
     omega
   exact .nil hnil
  | some i =>
   simp only []
   rw [linearise_go_acc, List.reverse_singleton, List.singleton_append]
   have hmem := List.mem_of_getElem? hi
   refine .cons hmem (Zll f _ _ ?_)
   have hlt := ZgN hmem
   have hun := (mem_ready.1 hmem).1
   have hli : listed.toList[i]'(by simpa using hlt) = false := by
    rw [Array.getD_eq_getD_getElem?, Array.getElem?_eq_getElem hlt] at hun
    simpa using hun
   rw [Array.toList_setIfInBounds, List.countP_set (by simpa using hlt), hli, hf]
   simp

def Zry (g : Nat → Nat) (ops ops' : Array Oper) : Prop :=
 ∀ i, ∃ ed : Oper → Array Edge, ops'[g i]? = (ops[i]?).map fun o => { o with after := ed o, guard := o.guard.map fun x => (g x.1, x.2) }

theorem Zck {g : Nat → Nat} {ops' : Array Oper} (hT : Zry g ops ops') : ∀ (s : List Nat) {a : Act} {w : World}, wpOpsIn (Fr rd) 0 P ops' Q (s.map g) a w → wpOpsIn (Fr rd) 0 P ops Q s a w
 | [], _, _, h => h
 | i :: s, a, w, h => by
  rw [List.map_cons, wpOpsIn_cons] at h
  rw [wpOpsIn_cons]
  obtain ⟨ed, he⟩ := hT i
  unfold wpOpIn at h ⊢
  cases ho : ops[i]? with
  | none =>
   rw [he, ho] at h
   exact Zck hT s h
  | some o =>
   rw [he, ho] at h
   simp only [Option.map_some] at h ⊢
   have hw : Region.wanted { o with after := ed o, guard := o.guard.map fun x => (g x.1, x.2) } (yielded ops' a.tmps) = Region.wanted o (yielded ops a.tmps) := by
    unfold Region.wanted
    cases o.guard with
    | none => rfl
    | some x =>
     obtain ⟨j, want⟩ := x
     simp only [Option.map_some]
     obtain ⟨ed2, he2⟩ := hT j
     have : yielded ops' a.tmps (g j) = yielded ops a.tmps j := by
      unfold yielded
      rw [he2]
      cases ops[j]? <;> rfl
     rw [this]
   rw [hw] at h
   split
   ·rename_i hww
    rw [if_pos hww] at h
    exact Oper.wpIn_mono (fun a w h => Zck hT s h) h
   ·rename_i hww
    rw [if_neg hww] at h
    exact ⟨fun _ _ => trivial, Zck hT s h.2⟩

section
variable {α : Type} {c m : Nat}

theorem ZhN : ZQ c m m = c := by unfold ZQ; rw [if_pos rfl]
def ZbP (c m j : Nat) : Nat := if j = c then m else if c < j ∧ j ≤ m then j - 1 else j
theorem Zdb (h : c < m) (j : Nat) : ZQ c m (ZbP c m j) = j := by
 unfold ZQ ZbP; repeat' split
 all_goals omega
theorem ZfO (h : c < m) (i : Nat) : ZbP c m (ZQ c m i) = i := by
 unfold ZQ ZbP; repeat' split
 all_goals omega
theorem ZgO (h : c < m) {n i : Nat} (hm : m < n) : ZQ c m i < n ↔ i < n := by
 unfold ZQ; repeat' split
 all_goals omega

theorem Zdc (h : c < m) {l : List α} (hm : m < l.length) : (ZaL c m l).length = l.length := by
 simp only [ZaL, List.length_append, List.length_take, List.length_drop]; omega

theorem ZbQ (h : c < m) {l : List α} (hm : m < l.length) (i : Nat) : (ZaL c m l)[ZQ c m i]? = l[i]? := by
 have hA : (l.take c).length = c := by rw [List.length_take]; omega
 have hB : ((l.drop m).take 1).length = 1 := by rw [List.length_take, List.length_drop]; omega
 have hC : ((l.drop c).take (m - c)).length = m - c := by rw [List.length_take, List.length_drop]; omega
 unfold ZaL ZQ
 split
 ·rename_i e; subst e
  rw [List.getElem?_append_left (by simp only [List.length_append]; omega), List.getElem?_append_left (by simp only [List.length_append]; omega), List.getElem?_append_right (by omega)]
  simp [hA]
 ·rename_i hne
  split
  ·rename_i hi
   rw [List.getElem?_append_left (by simp only [List.length_append]; omega), List.getElem?_append_right (by simp only [List.length_append]; omega)]
   simp only [List.length_append, hA, hB]
   rw [List.getElem?_take, if_pos (by omega), List.getElem?_drop]
   congr 1; omega
  ·rename_i hi
   rcases Nat.lt_or_ge i c with hlt | hge
   ·rw [List.append_assoc, List.append_assoc, List.getElem?_append_left (by omega), List.getElem?_take, if_pos hlt]
   ·have : m < i := by omega
    rw [List.getElem?_append_right (by simp only [List.length_append]; omega)]
    simp only [List.length_append, hA, hB, hC]
    rw [List.getElem?_drop]
    congr 1; omega

theorem ZgP {β : Type} (f : α → β) (l : List α) : (ZaL c m l).map f = ZaL c m (l.map f) := by
 simp [ZaL, List.map_take, List.map_drop]
end

def Zf2 (c m : Nat) (ops : Array Oper) : Array Oper := (ops.toList.mapIdx fun i o => if i = m then { o with after := o.after ++ #[⟨c, .data⟩] } else o).toArray
def Zcx (c m : Nat) (i : Nat) (o : Oper) : Oper := { o with after := o.after.map (fun e => { e with on := ZQ c m e.on }) ++ (if i = c then #[⟨c, .data⟩] else #[]), guard := o.guard.map fun x => (ZQ c m x.1, x.2) }
def ZeV (c m : Nat) (ops : Array Oper) : Array Oper := (ZaL c m (ops.toList.mapIdx (Zcx c m))).toArray
def ZbE (c m : Nat) (listed : Array Bool) : Array Bool := (ZaL c m listed.toList).toArray

section
variable {c m : Nat}
theorem ZeW (i : Nat) : (Zf2 c m ops)[i]? = (ops[i]?).map fun o => if i = m then { o with after := o.after ++ #[⟨c, .data⟩] } else o := by
 simp [Zf2]
theorem ZeX (h : c < m) (hm : m < ops.size) (i : Nat) : (ZeV c m ops)[ZQ c m i]? = (ops[i]?).map (Zcx c m i) := by
 simp only [ZeV, List.getElem?_toArray]
 rw [ZbQ h (by simpa using hm)]
 simp
theorem ZcV (h : c < m) {listed : Array Bool} (hm : m < listed.size) (i : Nat) (d : Bool) : (ZbE c m listed).getD (ZQ c m i) d = listed.getD i d := by
 rw [Array.getD_eq_getD_getElem?, Array.getD_eq_getD_getElem?]
 simp only [ZbE, List.getElem?_toArray]
 rw [ZbQ h (by simpa using hm)]
 simp
theorem Zfy (h : c < m) {listed : Array Bool} (hm : m < listed.size) (i : Nat) : (ZbE c m listed).setIfInBounds (ZQ c m i) true = ZbE c m (listed.setIfInBounds i true) := by
 have hl : (ZbE c m listed).size = listed.size := by simp only [ZbE, List.size_toArray]; rw [Zdc h (by simpa using hm)]; simp
 apply Array.ext_getElem?
 intro j
 rw [← Zdb h j]
 generalize ZbP c m j = j'
 have e1 : (ZbE c m (listed.setIfInBounds i true))[ZQ c m j']? = (listed.setIfInBounds i true)[j']? := by
  simp only [ZbE, List.getElem?_toArray]
  rw [ZbQ h (by simpa using hm), Array.getElem?_toList]
 have e2 : (ZbE c m listed)[ZQ c m j']? = listed[j']? := by
  simp only [ZbE, List.getElem?_toArray]
  rw [ZbQ h (by simpa using hm)]; simp
 rw [e1, Array.getElem?_setIfInBounds, Array.getElem?_setIfInBounds, e2, hl]
 have hiff : ZQ c m i = ZQ c m j' ↔ i = j' := ⟨fun k => by rw [← ZfO h i, k, ZfO h], fun k => by rw [k]⟩
 simp only [hiff, ZgO h hm]

theorem ZiA {listed : Array Bool} {i : Nat} : i ∈ Region.ready .any (Zf2 c m ops) listed ↔ i ∈ Region.ready .any ops listed ∧ (i = m → listed.getD c false = true) := by
 rw [mem_ready, mem_ready, ZeW]
 constructor
 ·rintro ⟨h1, o, ho, h2⟩
  obtain ⟨o', ho', rfl⟩ := Option.map_eq_some_iff.1 ho
  refine ⟨⟨h1, o', ho', fun x hx hb => h2 x ?_ hb⟩, fun he => h2 ⟨c, .data⟩ ?_ rfl⟩
  ·split <;> simp [hx]
  ·rw [if_pos he]; simp
 ·rintro ⟨⟨h1, o, ho, h2⟩, h3⟩
  refine ⟨h1, _, by rw [ho]; rfl, fun x hx hb => ?_⟩
  split at hx
  ·rename_i he
   simp only [Array.mem_append, List.mem_toArray, List.mem_singleton] at hx
   rcases hx with hx | rfl
   ·exact h2 x hx hb
   ·exact h3 he
  ·exact h2 x hx hb

theorem ZiB (h : c < m) (hm : m < ops.size) {listed : Array Bool} (hl : m < listed.size) {i : Nat} : ZQ c m i ∈ Region.ready .any (ZeV c m ops) (ZbE c m listed) ↔ i ∈ Region.ready .any ops listed ∧ (i = c → listed.getD m false = true) := by
 rw [mem_ready, mem_ready, ZeX h hm, ZcV h hl]
 constructor
 ·rintro ⟨h1, o, ho, h2⟩
  obtain ⟨o', ho', rfl⟩ := Option.map_eq_some_iff.1 ho
  refine ⟨⟨h1, o', ho', fun x hx hb => ?_⟩, fun he => ?_⟩
  ·have := h2 { x with on := ZQ c m x.on } (by simp only [Zcx, Array.mem_append, Array.mem_map]; exact .inl ⟨x, hx, rfl⟩) hb
   rwa [ZcV h hl] at this
  ·have := h2 ⟨c, .data⟩ (by simp only [Zcx, if_pos he]; simp) rfl
   have e : (ZbE c m listed).getD (ZQ c m m) false = true := by rw [ZhN]; exact this
   rwa [ZcV h hl] at e
 ·rintro ⟨⟨h1, o, ho, h2⟩, h3⟩
  refine ⟨h1, _, by rw [ho]; rfl, fun x hx hb => ?_⟩
  simp only [Zcx, Array.mem_append, Array.mem_map] at hx
  rcases hx with ⟨y, hy, rfl⟩ | hx
  ·rw [ZcV h hl]; exact h2 y hy hb
  ·split at hx
   ·rename_i he
    simp only [List.mem_toArray, List.mem_singleton] at hx
    subst hx
    have := h3 he
    rw [← ZcV h hl, ZhN] at this; exact this
   ·simp at hx

theorem ZjD {listed : Array Bool} {i j : Nat} (h : listed.getD j false = true) : (listed.setIfInBounds i true).getD j false = true := by
 rw [Array.getD_eq_getD_getElem?] at h ⊢
 rw [Array.getElem?_setIfInBounds]
 split
 ·split <;> simp_all
 ·exact h

theorem Zvr {s : List Nat} : ∀ {f : Nat} {listed : Array Bool}, OrdF ops f listed s → listed.getD c false = true → OrdF (Zf2 c m ops) f listed s := by
 induction s with
 | nil =>
  intro f listed h hc
  cases h with
  | nil hr => exact .nil (List.eq_nil_iff_forall_not_mem.2 fun i hi => by have := (ZiA.1 hi).1; rw [hr] at this; simp at this)
 | cons i s ih =>
  intro f listed h hc
  cases h with
  | cons hi ho => exact .cons (ZiA.2 ⟨hi, fun _ => hc⟩) (ih ho (ZjD hc))

theorem ZjE (h : c < m) (hm : m < ops.size) {f : Nat} {listed : Array Bool} (hl : m < listed.size) (hr : Region.ready .any ops listed = []) : OrdF (ZeV c m ops) f (ZbE c m listed) [] :=
 .nil (List.eq_nil_iff_forall_not_mem.2 fun j hj => by
  rw [← Zdb h j] at hj
  have := ((ZiB h hm hl).1 hj).1
  rw [hr] at this; simp at this)

theorem Zvs (h : c < m) (hm : m < ops.size) {s : List Nat} : ∀ {f : Nat} {listed : Array Bool}, m < listed.size → OrdF ops f listed s → listed.getD m false = true → OrdF (ZeV c m ops) f (ZbE c m listed) (s.map (ZQ c m)) := by
 induction s with
 | nil =>
  intro f listed hl ho hc
  cases ho with
  | nil hr => exact ZjE h hm hl hr
 | cons i s ih =>
  intro f listed hl ho hc
  cases ho with
  | cons hi ho =>
   refine .cons ((ZiB h hm hl).2 ⟨hi, fun _ => hc⟩) ?_
   rw [Zfy h hl]
   exact ih (by simpa using hl) ho (ZjD hc)

theorem Zmk (h : c < m) (hm : m < ops.size) {s : List Nat} : ∀ {f : Nat} {listed : Array Bool}, m < listed.size → OrdF ops f listed s → OrdF (Zf2 c m ops) f listed s ∨ OrdF (ZeV c m ops) f (ZbE c m listed) (s.map (ZQ c m)) := by
 induction s with
 | nil =>
  intro f listed hl ho
  cases ho with
  | nil hr => exact .inr (ZjE h hm hl hr)
 | cons i s ih =>
  intro f listed hl ho
  cases ho with
  | cons hi ho =>
   have hlt := ZgN hi
   have hset : (listed.setIfInBounds i true).getD i false = true := by
    rw [Array.getD_eq_getD_getElem?, Array.getElem?_setIfInBounds, if_pos rfl, if_pos hlt]; rfl
   by_cases hic : i = c
   ·subst hic
    exact .inl (.cons (ZiA.2 ⟨hi, fun e => absurd e (by omega)⟩) (Zvr ho hset))
   ·by_cases him : i = m
    ·subst him
     refine .inr (.cons ((ZiB h hm hl).2 ⟨hi, fun e => absurd e hic⟩) ?_)
     rw [Zfy h hl]
     exact Zvs h hm (by simpa using hl) ho hset
    ·rcases ih (by simpa using hl) ho with k | k
     ·exact .inl (.cons (ZiA.2 ⟨hi, fun e => absurd e him⟩) k)
     ·refine .inr (.cons ((ZiB h hm hl).2 ⟨hi, fun e => absurd e hic⟩) ?_)
      rw [Zfy h hl]; exact k

theorem ZtY : Zry id ops (Zf2 c m ops) := fun i => ⟨fun o => if i = m then o.after ++ #[⟨c, .data⟩] else o.after, by
 rw [id, ZeW]
 cases ops[i]? with
 | none => rfl
 | some o =>
  obtain ⟨_, _, _, _, _, g⟩ := o
  simp only [Option.map_some, id]
  split <;> cases g <;> rfl⟩
theorem ZtZ (h : c < m) (hm : m < ops.size) : Zry (ZQ c m) ops (ZeV c m ops) := fun i => ⟨fun o => o.after.map (fun e => { e with on := ZQ c m e.on }) ++ (if i = c then #[⟨c, .data⟩] else #[]), by rw [ZeX h hm]; rfl⟩
end

def AOper.core (o : AOper) : AOper := { o with after := [] }
theorem Zbq {cw : Zz} {lv : List Nat} : ∀ (os : List AOper) {e : Env} {σ : Sto} {K : Env → Sto → Prop}, Zu cw lv (os.map AOper.core) e σ K ↔ Zu cw lv os e σ K
 | [], _, _, _ => Iff.rfl
 | o :: os, e, σ, K => by
  have ih : ∀ (K : Env → Sto → Prop), (fun e σ => Zu cw lv (os.map AOper.core) e σ K) = fun e σ => Zu cw lv os e σ K := fun K => by
   funext e σ; exact propext (Zbq os)
  simp only [List.map_cons, Zu]
  have e1 : ZN o.core e = ZN o e := rfl
  have e2 : ∀ K, ZZ cw lv o.core e σ K = ZZ cw lv o e σ K := fun K => rfl
  rw [e1]
  split
  ·rw [e2, ih]
  ·rw [Zbq os]; rfl
  ·exact Iff.rfl
theorem ZiC {c m : Nat} {os : List AOper} : (Zc5 c m os).map AOper.core = os.map AOper.core := by
 apply List.ext_getElem?
 intro i
 simp only [Zc5, List.getElem?_map, List.getElem?_mapIdx, Option.map_map]
 cases os[i]? with
 | none => rfl
 | some o => simp only [Option.map_some, Function.comp]; split <;> rfl
theorem ZiD {c m : Nat} {os : List AOper} : (Zc6 c m os).map AOper.core = (ZaL c m os).map AOper.core := by
 unfold Zc6
 rw [ZgP, ZgP]
 congr 1
 apply List.ext_getElem?
 intro i
 simp only [List.getElem?_map, List.getElem?_mapIdx, Option.map_map]
 cases os[i]? with
 | none => rfl
 | some o => rfl

theorem Zml {cw : Zz} (hD : Det cw) (hC : CallsOk P cw) (hP : Z7 P cw) {lv : List Nat} {c m : Nat} {ops : Array Oper} {aos : List AOper} (hmx : P.follows .mixedOrders = true) (hsz : ops.size = aos.length)
  (hops : ∀ (i : Nat) (ao : AOper), aos[i]? = some ao → ∃ o, ops[i]? = some o ∧ OpRel P ops ao o) (hok : Zol c m aos = true) {id : Nat} {e : Env} {σ : Sto} {K : Env → Sto → Prop}
  (h : Zu cw lv aos e σ fun e' σ' => Zu cw lv (ZaL c m aos) e σ (fun e2 σ2 => e2 = e' ∧ σ2 = σ') ∧ K e' σ')
  {F : Frz} {L : Lay} {a : Act} {w : World} (hR : CRel bs F L lv e σ a w) {Q : Exit → Act → World → Prop} (hK : ∀ e' σ' F' L' a' w', K e' σ' → CRel bs F' L' lv e' σ' a' w' → Adv F L w F' L' w' → Q .normal a' w') : (Code.region id ops true).wpIn (Fr rd) 0 P Q a w := by
 simp only [Zol, Bool.and_eq_true, decide_eq_true_eq] at hok
 obtain ⟨⟨⟨hcm, hml⟩, ok1⟩, ok2⟩ := hok
 have hms : m < ops.size := by omega
 obtain ⟨e', σ', ⟨h1, h2⟩, h3⟩ := Zbl hD _ h
 obtain ⟨e2, σ2, ⟨rfl, rfl⟩, h4⟩ := Zbl hD _ h1
 have r1 : Zu cw lv (Zc5 c m aos) e σ K := by
  rw [← Zbq, ZiC, Zbq]; exact h3 h2
 have r2 : Zu cw lv (Zc6 c m aos) e σ K := by
  rw [← Zbq, ZiD, Zbq]; exact h4 h2
 have sE : (Zf2 c m ops).size = (Zc5 c m aos).length := by simp [Zf2, Zc5, hsz]
 have sA : (ZeV c m ops).size = (Zc6 c m aos).length := by
  simp only [ZeV, List.size_toArray, Zc6]
  rw [Zdc hcm (by simpa using hms), Zdc hcm (by simpa using hml)]; simp [hsz]
 have dE : ∀ j : Nat, ((Zf2 c m ops)[j]?).bind (·.dst) = (ops[j]?).bind (·.dst) := fun j => by
  rw [ZeW]; cases ops[j]? with
  | none => rfl
  | some o => simp only [Option.map_some, Option.bind_some]; split <;> rfl
 have dA : ∀ j : Nat, ((ZeV c m ops)[ZQ c m j]?).bind (·.dst) = (ops[j]?).bind (·.dst) := fun j => by
  rw [ZeX hcm hms]; cases ops[j]? with
  | none => rfl
  | some o => rfl
 have hb : Region.binds .any ⟨c, .data⟩ = true := rfl
 have a1 := ZgM (P := P) (rd := rd) (ops := Zf2 c m ops) hD hC hP sE (fun i ao hi => by
  simp only [Zc5, List.getElem?_mapIdx, Option.map_eq_some_iff] at hi
  obtain ⟨ao', hi, rfl⟩ := hi
  obtain ⟨o, ho, hr⟩ := hops i ao' hi
  refine ⟨_, by rw [ZeW, ho]; rfl, ?_⟩
  split
  ·refine ⟨hr.op, hr.dst, ?_, ?_, hr.reads⟩
   ·simp only [dE]; exact hr.guard
   ·simp only [Array.toList_append, List.filter_append, List.map_append, hr.after]
    simp [hb]
  ·exact ⟨hr.op, hr.dst, by simp only [dE]; exact hr.guard, hr.after, hr.reads⟩) ok1 r1 hR hK
 have a2 := ZgM (P := P) (rd := rd) (ops := ZeV c m ops) hD hC hP sA (fun j ao hj => by
  rw [← Zdb hcm j] at hj ⊢
  generalize ZbP c m j = i at hj ⊢
  simp only [Zc6] at hj
  rw [ZbQ hcm (by simpa using hml)] at hj
  simp only [List.getElem?_mapIdx, Option.map_eq_some_iff] at hj
  obtain ⟨ao', hi, rfl⟩ := hj
  obtain ⟨o, ho, hr⟩ := hops i ao' hi
  refine ⟨Zcx c m i o, by rw [ZeX hcm hms, ho]; rfl, hr.op, hr.dst, ?_, ?_, hr.reads⟩
  ·simp only [Zcx, hr.guard, Option.map_map]
   cases o.guard with
   | none => rfl
   | some x => obtain ⟨j, want⟩ := x; simp only [Option.map_some, Function.comp, dA]
  ·simp only [Zcx, hr.after, Array.toList_append, Array.toList_map, List.filter_append, List.map_append, List.filter_map, List.map_map]
   congr 1
   split
   ·simp [hb]
   ·rfl) ok2 r2 hR hK
 refine wpIn_region_draw fun t => ?_
 simp only [Region.schedule, hmx, Bool.true_or, if_true]
 have hord := Zll (ops := ops) ops.size t (Array.replicate ops.size false) (by simp [List.countP_replicate])
 have hrep : ZbE c m (Array.replicate ops.size false) = Array.replicate ops.size false := by
  apply Array.ext_getElem?
  intro j
  rw [← Zdb hcm j]
  generalize ZbP c m j = i
  have e1 : (ZbE c m (Array.replicate ops.size false))[ZQ c m i]? = (Array.replicate ops.size false)[i]? := by
   simp only [ZbE, List.getElem?_toArray]
   rw [ZbQ hcm (by simpa using hms), Array.getElem?_toList]
  rw [e1]
  simp only [Array.getElem?_replicate, ZgO hcm hms]
 have e1 : (Zf2 c m ops).size = ops.size := by simp [Zf2]
 have e2 : (ZeV c m ops).size = ops.size := by simp only [ZeV, List.size_toArray]; rw [Zdc hcm (by simpa using hms)]; simp
 rcases Zmk hcm hms (by simpa using hms) hord with k | k
 ·rw [e1] at a1
  have := ZdC k a1
  exact Zck ZtY _ (by rwa [List.map_id])
 ·rw [hrep] at k
  rw [e2] at a2
  exact Zck (ZtZ hcm hms) _ (ZdC k a2)

end
end Go.Abs
/- Ranges over functions: the loop's record, the marks. -/
namespace Go.Abs
open Go
variable [Inhabited Glob] [Lps]

section
variable {P : Program} {bs : Nat}

theorem Inv.putFree {F : Frz} {L : Lay} {σ : Sto} {w : World} (hI : Inv F L σ w) {b : Nat} {ob : Obj} (hn : ¬ Zap L b) (hc : ∀ off, F.cells b off = none) (hm : F.maps b = none) : Inv F L σ (w.putObj b ob) := by
 refine ⟨fun b' off v h => ?_, fun r kv h => ?_, fun o loc gen ho => ?_, hI.lt, hI.inj, hI.sep, hI.dd, hI.gl⟩
 ·have hne : b' ≠ b := by rintro rfl; rw [hc] at h; simp at h
  rw [World.cell?_heap (World.putObj_heap_other hne)]; exact hI.fz _ _ _ h
 ·have hne : r ≠ b := by rintro rfl; rw [hm] at h; simp at h
  rw [World.putObj_heap_other hne]; exact hI.fm _ _ h
 ·obtain ⟨ob', h1, h2⟩ := hI.obj o loc gen ho
  exact ⟨ob', h1, h2.mono (Frz.Le.refl F) (Evo.refl L) fun b' hb' => World.putObj_heap_other (by rintro rfl; exact hn ⟨o, loc, gen, ho, hb'⟩)⟩

theorem Inv.noFrz {F : Frz} {L : Lay} {σ : Sto} {w : World} (hI : Inv F L σ w) {b : Nat} {ob : Obj} (h : w.heap[b]? = some ob) (h1 : ∀ c e p, ob ≠ .cells c e p) (h2 : ∀ es c, ob ≠ .map es c) : (∀ off, F.cells b off = none) ∧ F.maps b = none := by
 constructor
 ·intro off
  cases hc : F.cells b off with
  | none => rfl
  | some v =>
   have := hI.fz _ _ _ hc
   unfold World.cell? at this
   rw [h] at this
   cases ob <;> simp at this <;> exact absurd rfl (h1 _ _ _)
 ·cases hc : F.maps b with
  | none => rfl
  | some v =>
   obtain ⟨es, cl, k, _⟩ := hI.fm _ _ hc
   rw [h] at k
   exact absurd (Option.some.inj k) (h2 _ _)

theorem Adv.putNew {F F' : Frz} {L L' : Lay} {w w' : World} (hA : Adv F L w F' L' w') {b : Nat} {ob : Obj} (hb : w.heap.size ≤ b) : Adv F L w F' L' (w'.putObj b ob) :=
 ⟨hA.frz, hA.evo, hA.os, hA.tape, hA.output, by rw [World.putObj_size]; exact hA.size, hA.own, fun b' hb' hn => (World.putObj_heap_other (by omega)).trans (hA.keep b' hb' hn), hA.fkeep⟩

theorem ZfP {F : Frz} {L : Lay} {σ : Sto} {fn : Func} {tmps : Array Value} {R : Ending → World → Prop} : ∀ (Ds : List Nat) {w : World}, Ds.Nodup → (∀ D ∈ Ds, bs ≤ D ∧ w.heap[D]? = some (.deferred (some []))) → Inv F L σ w →
  (∀ w', Inv F L σ w' → w'.heap.size = w.heap.size → (∀ {F0 : Frz} {L0 : Lay} {w0 : World}, w0.heap.size ≤ bs → Adv F0 L0 w0 F L w → Adv F0 L0 w0 F L w') → ∃ v, (results fn tmps).run P w' = .ok v w' ∧ R (.returned v) w') →
  LeavesInM (Fr none) 0 P fn tmps R (Ds.map fun D => { target := .collected D, args := #[] }) .returning w
 | [], w, _, _, hI, hK => hK w hI rfl fun _ h => h
 | D :: Ds, w, hnd, hD, hI, hK => by
  obtain ⟨h1, h2⟩ := hD D (by simp)
  obtain ⟨hn1, hn2⟩ := List.nodup_cons.1 hnd
  obtain ⟨f1, f2⟩ := hI.noFrz h2 (by simp) (by simp)
  refine ⟨by simp, .inl ⟨D, _, rfl, run_takeDeferred h2, ?_⟩⟩
  refine ZfP Ds hn2 (fun D' hD' => ?_) (hI.putFree (hI.notOwns h2) f1 f2) fun w' hI' hs hA => hK w' hI' (hs.trans World.putObj_size) fun hs h => hA hs (h.putNew (by omega))
  obtain ⟨h3, h4⟩ := hD D' (by simp [hD'])
  exact ⟨h3, (World.putObj_heap_other (by rintro rfl; exact hn1 hD')).trans h4⟩

theorem Inv.loop {F : Frz} {L : Lay} {lv : List Nat} {σ : Sto} {w : World} (hI : Inv F L σ w) (hF : ZbN L σ) (hl : ZaH lv σ) {o : Nat} {ps : List Nat} {b : ACode} {e : Env} {st : LSt} (hσ : σ[o]? = some (.loop ps b e st)) :
  ∃ (r g : Nat) (R : Loop), L o = .live (.mp r) g ∧ w.heap[r]? = some (.loop R) ∧ Zjs st R ∧ R.params.toList = ps ∧ glp b R.assign R.body ∧ ZI F L e R.tmps ∧
  ∀ (st' : LSt) (R' : Loop), Zjs st' R' → R'.params = R.params → R'.assign = R.assign → R'.body = R.body → R'.tmps = R.tmps →
   Inv F (Zaa L o (.live (.mp r) g)) (σ.set o (.loop ps b e st')) (w.putObj r (.loop R')) ∧ ZbN (Zaa L o (.live (.mp r) g)) (σ.set o (.loop ps b e st')) ∧ ZaH lv (σ.set o (.loop ps b e st')) ∧ Adv F L w F (Zaa L o (.live (.mp r) g)) (w.putObj r (.loop R')) := by
 have hlt : o < σ.length := (List.getElem?_eq_some_iff.1 hσ).1
 cases hL : L o with
 | un => exact absurd hL (hF o hlt)
 | dead => have := hI.dd o hL; rw [hσ] at this; simp at this
 | live loc g =>
  obtain ⟨ob, h1, h2⟩ := hI.obj o loc g hL
  rw [hσ] at h1
  obtain rfl := Option.some.inj h1
  obtain ⟨r, R, rfl, hw, hst, hps, hb, hlen, henv⟩ := h2
  have hrs : r < w.heap.size := (Array.getElem?_eq_some_iff.1 hw).1
  refine ⟨r, g, R, rfl, hw, hst, hps, hb, ⟨hlen, henv⟩, fun st' R' q1 q2 q3 q4 q5 => ?_⟩
  obtain ⟨k1, k2⟩ := hI.change (o := o) (loc := .mp r) (gen := g) (ob := .loop ps b e st') (σ' := σ.set o (.loop ps b e st')) (w' := w.putObj r (.loop R')) (by simp) (fun i _ hi => by rw [List.getElem?_set, if_neg (Ne.symm hi)]) (by simp [hlt])
   (by rw [hL]; exact ZaA.refl _) rfl rfl rfl (by rw [World.putObj_size]; exact Nat.le_refl _) (fun b' hb' => .inl ⟨_, _, hL, hb'⟩) (fun k _ hk => World.putObj_heap_other (by rintro rfl; exact hk rfl))
   ⟨r, R', rfl, World.putObj_heap_same hrs, q1, by rw [q2]; exact hps, by rw [q3, q4]; exact hb, by rw [q5]; exact hlen, fun i v hv => by rw [q5]; exact henv i v hv⟩
  refine ⟨k1, fun i hi => ?_, hl.set fun l hl' ho => ?_, k2⟩
  ·by_cases h : i = o
   ·subst h; rw [Zk]; simp
   ·rw [ZL _ _ h]; exact hF i (by simpa using hi)
  ·have := (hl l hl').2 o _ ho hσ; exact this

theorem Inv.loopEnd {F0 F : Frz} {L0 L : Lay} {lv : List Nat} {σ : Sto} {w0 w : World} (hI : Inv F L σ w) (hF : ZbN L σ) (hl : ZaH lv σ) {o : Nat} {ps : List Nat} {b : ACode} {e : Env} {st : LSt} (hσ : σ[o]? = some (.loop ps b e st)) {r g : Nat} (hL : L o = .live (.mp r) g)
  (hA : Adv F0 L0 w0 F L w) (hr : w0.heap.size ≤ r) (ob : Loop) : Inv F (Zaa L o .dead) (σ.set o .dead) (w.putObj r (.loop ob)) ∧ ZbN (Zaa L o .dead) (σ.set o .dead) ∧ ZaH lv (σ.set o .dead) ∧ Adv F0 L0 w0 F (Zaa L o .dead) (w.putObj r (.loop ob)) ∧ Evo L (Zaa L o .dead) := by
 have hlt : o < σ.length := (List.getElem?_eq_some_iff.1 hσ).1
 obtain ⟨k1, k2⟩ := hI.kill (o := o) (σ' := σ.set o .dead) (by rw [hL]; simp) (by simp) (fun i _ hi => by rw [List.getElem?_set, if_neg (Ne.symm hi)]) (by simp [hlt])
 have hown : Zap L r := ⟨o, _, _, hL, rfl⟩
 obtain ⟨s1, s2⟩ := hI.sep r hown
 have hn : ¬ Zap (Zaa L o .dead) r := by
  rintro ⟨i, loc, g', h1, h2⟩
  by_cases h : i = o
  ·subst h; rw [Zk] at h1; simp at h1
  ·rw [ZL _ _ h] at h1; exact h (hI.inj _ _ _ _ _ _ r h1 hL h2 rfl)
 refine ⟨k1.putFree hn s1 s2, fun i hi => ?_, hl.set (ob := .dead) (by intro l _ _; rfl), (hA.trans k2).putNew hr, k2.evo⟩
 by_cases h : i = o
 ·subst h; rw [Zk]; simp
 ·rw [ZL _ _ h]; exact hF i (by simpa using hi)

theorem ZI.putT {F : Frz} {L : Lay} {e : Env} {t : Array Value} (h : ZI F L e t) {d : Nat} {v : AVal} {cv : Value} (hv : VRel F L v cv) : ZI F L (e.set d v) (t.setIfInBounds d cv) :=
 ZI.put (a := { tmps := t, defers := [] }) h (dst := some d) hv

theorem ZgQ {F : Frz} {L : Lay} : ∀ (ps : List Nat) (ys : List AVal) (cs : List Value) {e : Env} {t : Array Value}, ZI F L e t → ys.length = ps.length → cs.length = ps.length → (∀ (i : Nat) c, ys[i]? = some c → VRel F L c (cs.getD i undef)) →
  ZI F L (Zb6 e ps ys) ((ps.zip cs).foldl (fun t (p : Nat × Value) => t.setIfInBounds p.1 p.2) t)
 | [], ys, cs, e, t, h, hy, hc, hv => by simpa [Zb6] using h
 | p :: ps, [], cs, e, t, h, hy, hc, hv => by simp at hy
 | p :: ps, y :: ys, [], e, t, h, hy, hc, hv => by simp at hc
 | p :: ps, y :: ys, c :: cs, e, t, h, hy, hc, hv => by
  simp only [Zb6, List.zip_cons_cons, List.foldl_cons]
  exact ZgQ ps ys cs (h.putT (by simpa using hv 0 y rfl)) (by simpa using hy) (by simpa using hc) fun i c hi => by simpa using hv (i + 1) c (by simpa using hi)

theorem Zmm {F : Frz} {L : Lay} {e : Env} {R : Loop} (h : ZI F L e R.tmps) {ys : List AVal} {cargs : Array Value} (hy : ZK F L ys cargs) {ps : List Nat} (hp : R.params.toList = ps) (hl : ys.length = ps.length) : ZI F L (Zb6 e ps ys) (ZcM R cargs) := by
 have := ZgQ ps ys cargs.toList h hl (by simpa [hy.1] using hl) fun i c hi => by
  have := hy.2 i c hi
  simpa [Array.getD_eq_getD_getElem?, List.getD_eq_getElem?_getD] using this
 unfold ZcM
 rw [← Array.foldl_toList, Array.toList_zip, hp]
 exact this

theorem Zhk {f : FuncId} {ca args : Array Value} {w : World} (h : ∃ fn, P.funcs[f]? = some fn ∧ fn.body.isSome ∧ (fn.name == "runtime.NumGoroutine") = false) : (invoke (.fn (.func f) ca) args).run P w = .ok (.enter f (args ++ ca)) w := by
 obtain ⟨fn, h1, h2, h3⟩ := h
 have h2' : fn.body.isNone = false := by cases hb : fn.body <;> simp [hb] at h2 ⊢
 simp only [invoke, callFunc, Sem.run_bind, run_program, h1, h3, h2', Bool.false_eq_true, if_false, Sem.run_pure, Result.andThen_ok]

theorem ZjF {F : Frz} {L : Lay} {lv : List Nat} {e : Env} {σ : Sto} {a : Act} {w : World} (hR : CRel bs F L lv e σ a w) {body : ACode} {asC bodyC : Code} (hlpb : glp body asC bodyC) {psA : Array Tmp} (fn : FuncId) :
  ∃ w1 L1, (Instr.enterLoop fn a.tmps psA asC bodyC none).run P w = .ok (w.heap.size + 1, [{ target := .collected w.heap.size, args := #[] }]) w1 ∧ L1 σ.length = .live (.mp (w.heap.size + 1)) 0 ∧
   Inv F L1 (σ ++ [.loop psA.toList body e .ready]) w1 ∧ ZbN L1 (σ ++ [.loop psA.toList body e .ready]) ∧ ZaH lv (σ ++ [.loop psA.toList body e .ready]) ∧ Adv F L w F L1 w1 ∧ Zau bs w1 ({ target := .collected w.heap.size, args := #[] } :: a.defers) := by
 refine ⟨(w.alloc (.deferred (some []))).alloc (.loop { state := .ready, pending := none, fn, tmps := a.tmps, params := psA, assign := asC, body := bodyC, defers := w.heap.size }), Zaa L σ.length (.live (.mp (w.heap.size + 1)) 0),
  run_enterLoop_outer fn a.tmps psA asC bodyC, Zk _ _ _, ?_⟩
 generalize hw1 : (w.alloc (.deferred (some []))).alloc (.loop { state := .ready, pending := none, fn, tmps := a.tmps, params := psA, assign := asC, body := bodyC, defers := w.heap.size }) = w1
 have hsz1 : w.heap.size ≤ w1.heap.size := by
  subst hw1; show w.heap.size ≤ ((w.heap.push _).push _).size
  rw [Array.size_push, Array.size_push]; omega
 have hk1 : ∀ k, k < w.heap.size → w1.heap[k]? = w.heap[k]? := fun k hk => by
  subst hw1; show ((w.heap.push _).push _)[k]? = _
  rw [Array.getElem?_push_lt (by rw [Array.size_push]; omega), Array.getElem_push_lt hk]; simp [hk]
 have hD1 : w1.heap[w.heap.size]? = some (.deferred (some [])) := by
  subst hw1; show ((w.heap.push _).push _)[w.heap.size]? = _
  rw [Array.getElem?_push_lt (by rw [Array.size_push]; omega)]; simp
 have hl1 : w1.heap[w.heap.size + 1]? = some (.loop { state := .ready, pending := none, fn, tmps := a.tmps, params := psA, assign := asC, body := bodyC, defers := w.heap.size }) := by
  subst hw1; show ((w.heap.push _).push _)[w.heap.size + 1]? = _
  have := Array.getElem?_push_size (xs := w.heap.push (.deferred (some []))) (x := Obj.loop { state := .ready, pending := none, fn, tmps := a.tmps, params := psA, assign := asC, body := bodyC, defers := w.heap.size })
  rwa [Array.size_push] at this
 have hos : w1.os = w.os := by subst hw1; rfl
 have htp : w1.tape = w.tape := by subst hw1; rfl
 have hou : w1.output = w.output := by subst hw1; rfl
 clear hw1
 have hun := hR.inv.unFresh (Nat.le_refl σ.length)
 obtain ⟨hI1, hA1⟩ := hR.inv.change (o := σ.length) (loc := .mp (w.heap.size + 1)) (gen := 0) (ob := .loop psA.toList body e .ready) (σ' := σ ++ [.loop psA.toList body e .ready]) (w' := w1) (by simp) (fun i hi _ => List.getElem?_append_left hi) (by simp)
  (by rw [hun]; trivial) hos htp hou hsz1 (fun b hb => by simp [Loc.block?] at hb; subst hb; right; omega) (fun k hk _ => hk1 k hk)
  ⟨_, _, rfl, hl1, ⟨rfl, rfl⟩, rfl, hlpb, hR.env.1, hR.env.2⟩
 refine ⟨hI1, fun i hi => ?_, hR.lv.append _, hA1, hR.defers.push hsz1 hk1 hD1⟩
 by_cases he : i = σ.length
 ·subst he; rw [Zk]; simp
 ·rw [ZL _ _ he]; exact hR.full i (by simp at hi; omega)

theorem ZkE {F L w F' L' w'} {lv : List Nat} {e : Env} {σ σ' : Sto} {a : Act} (hR : CRel bs F L lv e σ a w) {l g : Nat} (hl0 : w.heap.size ≤ l) {ds : List Deferred} (hm : Zau bs w' ds) (hI : Inv F' L' σ' w') (hF : ZbN L' σ') (hl : ZaH lv σ') (hA : Adv F L w F' L' w')
  {o : Nat} (hL : ∀ r g', L' o = .live (.mp r) g' → r = l) {st : LSt} {ps' : List Nat} {b' : ACode} {e'' : Env} (hσ : σ'[o]? = some (.loop ps' b' e'' st)) (_ : g = g) :
  ∃ R : Loop, w'.heap[l]? = some (.loop R) ∧ Zjs st R ∧ ∀ R' : Loop, ∃ L2, CRel bs F' L2 lv e (σ'.set o .dead) { a with defers := ds } (w'.putObj l (.loop R')) ∧ Adv F L w F' L2 (w'.putObj l (.loop R')) := by
 obtain ⟨r, gg, R, hLr, hwr, hst, _⟩ := hI.loop hF hl hσ
 obtain rfl := hL r gg hLr
 refine ⟨R, hwr, hst, fun R' => ?_⟩
 obtain ⟨k1, k2, k3, k4, k5⟩ := hI.loopEnd hF hl hσ hLr hA hl0 R'
 refine ⟨_, ⟨(hR.env.mono hA.frz hA.evo).mono (Frz.Le.refl _) k5, ?_, k1, k2, k3⟩, k4⟩
 refine hm.keep (by rw [World.putObj_size]; exact Nat.le_refl _) fun D hD => (World.putObj_heap_other ?_).trans hD
 rintro rfl
 rw [hwr] at hD; simp at hD

theorem ZjG {cw : Zz} (hC : CallsOk P cw) {n : Nat} {lv : List Nat} {e : Env} {σ : Sto} {x : Opd} {body : ACode} {psA : Array Tmp} {g : Operand} {asC bodyC : Code} {Q : Zg} (hg : ZR g = some x) (hlpb : glp body asC bodyC)
  (h : Zf cw n lv (.rangeF x psA.toList body) e σ Q) {F : Frz} {L : Lay} {a : Act} {w : World} (hR : CRel bs F L lv e σ a w) : (Code.rangeFunc g psA asC bodyC).wpIn (Fr none) 0 P (Zlb bs F L w lv Q) a w := by
 simp only [Zf] at h
 split at h
 case h_2 => exact h.elim
 rename_i f first captured hx
 have hyr := hR.env.reads hR.inv.gl g x hg
 rw [hx] at hyr
 obtain ⟨fa, ca, hev, h1, h2, hfy⟩ : ∃ fa ca, a.eval g = .func (.func f) fa ca ∧ ZK F L first fa ∧ ZK F L captured ca ∧ ZeJ (.func f) = true := by
  generalize a.eval g = q at hyr
  cases hyr with
  | clo hfl hcl hf hcc hy => exact ⟨_, _, rfl, ⟨hfl, hf⟩, ⟨hcl, hcc⟩, hy⟩
 refine wpIn_rangeFunc fun fn _ => ?_
 obtain ⟨w1, L1, hent, hL1, hI1, hF1, hl1, hA1, hm1⟩ := ZjF (P := P) hR hlpb (psA := psA) fn
 have hy : VRel F L1 (.yld σ.length) (.func (.yield (w.heap.size + 1)) #[] #[]) :=
  .yld (by rw [hL1]; simp) ⟨_, rfl⟩ fun loc gen hl => by rw [hL1] at hl; injection hl with e1; exact ⟨_, e1.symm, rfl⟩
 have hargs : ZK F L1 (first ++ [.yld σ.length] ++ captured) (fa ++ #[.func (.yield (w.heap.size + 1)) #[] #[]] ++ ca) := by
  refine ZK.append (ZK.append ⟨h1.1, fun i c hi => hA1.rel (h1.2 i c hi)⟩ ⟨rfl, fun i c hi => ?_⟩) ⟨h2.1, fun i c hi => hA1.rel (h2.2 i c hi)⟩
  cases i with
  | zero => simp at hi; subst hi; simpa using hy
  | succ i => simp at hi
 obtain ⟨hfn, hcalls⟩ := hC.calls h hfy hargs hI1 hF1 hl1
 refine ⟨_, _, w1, { target := .fn (.func f) ca, args := fa ++ #[.func (.yield (w.heap.size + 1)) #[] #[]] }, w1, f, _, w1, hent, ?_, fun _ _ => trivial, Zhk hfn, fun hx => by simp [Fr, Fence.wide] at hx, Zjw (hcalls.mono ?_)⟩
 ·simp only [resolve, rangeCall, hev, Deferred.ofValue, Sem.run_bind, Sem.run_pure, Result.andThen_ok, List.map_toArray, List.map_cons, List.map_nil, ZaQ]
 rintro e' w' ⟨v, cv, σ', F', L', rfl, hq, hv, hI, hF, hl, hA⟩
 have hstop := fun {st ps' b' e''} hσ => ZkE (g := 0) (l := w.heap.size + 1) (st := st) (ps' := ps') (b' := b') (e'' := e'') hR (by omega) (hm1.adv hI1 hA) hI hF hl (hA1.trans hA) (o := σ.length) (fun r g' hr => by
  have he := hA.evo σ.length
  rw [hL1, hr] at he
  rcases he with he | he | ⟨_, _, _, _, _, he⟩
  ·simp at he
  ·injection he with he; injection he
  ·exact absurd rfl (he _)) hσ rfl
 clear hcalls h
 unfold Z9 at hq
 split at hq
 ·rename_i hσ
  obtain ⟨R, hwr, hst, hfin⟩ := hstop hσ
  obtain ⟨s1, s2⟩ := hst
  refine ⟨_, _, run_endLoop hwr (by rw [s1]; simp), ?_⟩
  obtain ⟨L2, k1, k2⟩ := hfin { R with state := .exhausted }
  rw [s2]
  rw [s2] at k1 k2
  exact ⟨.normal, e, _, F', L2, trivial, hq, k1, k2⟩
 ·rename_i x hσ
  obtain ⟨R, hwr, hst, hfin⟩ := hstop hσ
  obtain ⟨L2, k1, k2⟩ := hfin { R with state := .exhausted }
  cases x with
  | normal => exact hst.elim
  | ret =>
   obtain ⟨s1, s2⟩ := hst
   refine ⟨_, _, run_endLoop hwr (by rw [s1]; simp), ?_⟩
   rw [s2]
   rw [s2] at k1 k2
   exact wpIn_ret ⟨.ret, e, _, F', L2, trivial, hq, k1, k2⟩
  | exit i =>
   obtain ⟨s1, s2⟩ := hst
   refine ⟨_, _, run_endLoop hwr (by rw [s1]; simp), ?_⟩
   rw [s2]
   rw [s2] at k1 k2
   exact wpIn_exit ⟨.exit i, e, _, F', L2, rfl, hq, k1, k2⟩
 ·exact hq.elim

theorem Zrz {o : Oper} {y : Opd} (h : cOp P o = some (.mv y)) : ∃ x, (o.op = .move x ∨ o.op = .assign x) ∧ ZR x = some y := by
 cases hop : o.op <;> simp only [cOp, hop, reduceCtorEq] at h
 case move x =>
  simp only [Option.map_eq_some_iff] at h
  obtain ⟨z, h1, h2⟩ := h
  injection h2 with h2; subst h2
  exact ⟨x, .inl rfl, h1⟩
 case assign x =>
  simp only [Option.map_eq_some_iff] at h
  obtain ⟨z, h1, h2⟩ := h
  injection h2 with h2; subst h2
  exact ⟨x, .inr rfl, h1⟩
 case call c =>
  exfalso
  split at h
  ·unfold ZcT at h
   repeat' split at h
   all_goals first | (simp at h; done) | (simp only [Option.map_eq_some_iff] at h; obtain ⟨_, _, h⟩ := h; exact absurd h (by simp))
  ·split at h <;> simp at h
  ·simp only [Option.map_eq_some_iff] at h; obtain ⟨_, _, h⟩ := h; exact absurd h (by simp)
  ·simp at h
 case makeMap t r => cases r <;> simp at h
 all_goals
  exfalso
  try unfold cEq at h
  repeat' split at h
  all_goals first | (simp at h; done) | (simp only [Option.map_eq_some_iff] at h; obtain ⟨_, _, h⟩ := h; exact absurd h (by simp))

theorem Zep {aos : List AOper} : (aos.map AOper.strip).all AOper.isMv = aos.all AOper.isMv := by
 induction aos with
 | nil => rfl
 | cons a l ih =>
  simp only [List.map_cons, List.all_cons, ih]
  congr 1
  obtain ⟨d, op, g, af, rr⟩ := a
  cases op <;> rfl

theorem ZdD {rd : Option Nat} {ops : Array Oper} {cw : Zz} {lv : List Nat} : ∀ (aos : List AOper) (os : List Oper), os.mapM (Zct P ops) = some (aos.map AOper.strip) → aos.all AOper.isMv = true →
  ∀ {e : Env} {σ : Sto} {K : Env → Sto → Prop}, Zu cw lv aos e σ K → ∃ e', K e' σ ∧ ∀ {F : Frz} {L : Lay} {a : Act} {w : World} {Q : Exit → Act → World → Prop}, ZI F L e a.tmps → Ziv F →
   (∀ a', ZI F L e' a'.tmps → a'.defers = a.defers → Q .normal a' w) → wpListIn (Fr rd) 0 P ops Q os a w
 | [], [], _, _, e, σ, K, h => ⟨e, h, fun he _ hK => hK _ he rfl⟩
 | [], o :: os, hm, _, e, σ, K, h => by have := (ZC _ hm).1; simp at this
 | ao :: aos, [], hm, _, e, σ, K, h => by simp at hm
 | ao :: aos, o :: os, hm, hall, e, σ, K, h => by
  simp only [List.all_cons, Bool.and_eq_true] at hall
  obtain ⟨hall1, hall2⟩ := hall
  simp only [List.mapM_cons, List.map_cons, Option.pure_def, Option.bind_eq_bind, Option.bind_eq_some_iff] at hm
  obtain ⟨x, hx, xs, hxs, heq⟩ := hm
  obtain ⟨rfl, rfl⟩ := List.cons.inj (Option.some.inj heq)
  simp only [Zct, Option.some.injEq] at hx
  obtain ⟨dst, op, guard, after, reads⟩ := ao
  have e1 : (cOp P o).getD .unsup = op.strip := congrArg AOper.op hx
  have e2 : dst = o.dst := (congrArg AOper.dst hx).symm
  have e3 : guard = o.guard.map fun (j, want) => ((ops[j]?).bind (·.dst), want) := (congrArg AOper.guard hx).symm
  cases op <;> simp [AOper.isMv] at hall1
  rename_i y
  cases guard with
  | some g => simp at hall1
  | none =>
  have hog : o.guard = none := by cases hg : o.guard with
   | none => rfl
   | some g => rw [hg] at e3; simp at e3
  obtain ⟨x, hop, hy⟩ := Zrz (Zdx e1 (by simp))
  simp only [Zu, ZN, ZZ, Zc] at h
  obtain ⟨e', hK, hrun⟩ := ZdD aos os hxs hall2 h
  refine ⟨e', hK, fun {F L a w Q} he hg hK' => ?_⟩
  unfold wpListIn
  simp only [Region.wanted, hog, if_true]
  have hrx : (execOp a.eval o).run P w = .ok (.value (a.eval x)) w := by
   rcases hop with hop | hop <;> simp [execOp, hop]
  have hnd : ∀ c, o.op ≠ .defer c := fun c hc => by rcases hop with hop | hop <;> rw [hop] at hc <;> cases hc
  refine Zbp hnd hrx (hrun ?_ hg fun a' h1 h2 => hK' a' h1 (h2.trans (Act.put_defers _ _ _)))
  rw [e2]
  exact he.put (he.reads hg x y hy)

end
end Go.Abs
/- The abstract machine is sound: the theorem. -/
namespace Go.Abs
open Go
variable [Inhabited Glob] [Lps]

section
variable {P : Program} {bs : Nat} {rd : Option Nat}

theorem ZbN.upd {L : Lay} {σ σ' : Sto} (h : ZbN L σ) (hl : σ'.length = σ.length) {o : Nat} {s : Lst} (hs : s ≠ .un) : ZbN (Zaa L o s) σ' := by
 intro i hi
 by_cases e : i = o
 ·subst e; rw [Zk]; exact hs
 ·rw [ZL _ _ e]; exact h i (by omega)

theorem ZaH.dead {lv : List Nat} {σ : Sto} (h : ZaH lv σ) (o : Nat) : ZaH lv (σ.set o .dead) := h.set (ob := .dead) (by intro l _ _; rfl)

theorem CRel.freeze {F : Frz} {L : Lay} {lv : List Nat} {e : Env} {σ : Sto} {a : Act} {w : World} (h : CRel bs F L lv e σ a w) {o b gen : Nat} {loc : Loc} (hL : L o = .live loc gen) (hb : loc.block? = some b) :
  ∃ F', CRel bs F' (Zaa L o .dead) lv e (σ.set o .dead) a w ∧ Adv F L w F' (Zaa L o .dead) w ∧ (∀ off v, w.cell? ⟨b, off, none⟩ = some v → F'.cells b off = some v) ∧
   (∀ es cl, w.heap[b]? = some (.map es cl) → F'.maps b = some (es.toList.map fun e => (e.key, e.val))) := by
 have hlt : o < σ.length := h.inv.lt o (by rw [hL]; simp)
 obtain ⟨hI, hA⟩ := h.inv.kill (o := o) (σ' := σ.set o .dead) (by rw [hL]; simp) (by simp) (fun i _ hi => by rw [List.getElem?_set, if_neg (Ne.symm hi)]) (by simp [hlt])
 have hown : Zap L b := ⟨o, loc, gen, hL, hb⟩
 have hn : ¬ Zap (Zaa L o .dead) b := by
  rintro ⟨i, l, g, h1, h2⟩
  by_cases e : i = o
  ·subst e; rw [Zk] at h1; simp at h1
  ·rw [ZL _ _ e] at h1; exact e (h.inv.inj _ _ _ _ _ _ b h1 hL h2 hb)
 obtain ⟨hs1, hs2⟩ := h.inv.sep b hown
 obtain ⟨hI', hle⟩ := hI.addFrz hn hs1 hs2
 refine ⟨Abs.addFrz F b w, ⟨h.env.mono hle hA.evo, h.defers, hI', h.full.upd (by simp) (by simp), h.lv.dead o⟩,
  ⟨hle, hA.evo, hA.os, hA.tape, hA.output, hA.size, hA.own, hA.keep, fun b' hb' hno => ?_⟩, fun off v hv => ?_, fun es cl hw => ?_⟩
 ·have : b' ≠ b := by rintro rfl; exact hno hown
  exact ⟨fun off => by simp only [Abs.addFrz, if_neg this], by simp only [Abs.addFrz, if_neg this]⟩
 ·simp only [Abs.addFrz, if_true]; exact hv
 ·simp only [Abs.addFrz, if_true, hw]

theorem ZI.set {F : Frz} {L : Lay} {e : Env} {tmps : Array Value} (h : ZI F L e tmps) {t : Nat} {v : AVal} (hv : VRel F L v (tmps.getD t undef)) : ZI F L (e.set t v) tmps := by
 refine ⟨by simp [h.1], fun i u hu => ?_⟩
 rw [List.getElem?_set] at hu
 split at hu
 ·rename_i e; subst e
  split at hu
  ·obtain rfl := Option.some.inj hu; exact hv
  ·simp at hu
 ·exact h.2 i u hu

theorem ZI.get {F : Frz} {L : Lay} {e : Env} {tmps : Array Value} (h : ZI F L e tmps) (t : Nat) : VRel F L (e.getD t .und) (tmps.getD t undef) := by
 cases he : e[t]? with
 | none => simp only [List.getD_eq_getElem?_getD, he, Option.getD_none]; exact .und
 | some v => simp only [List.getD_eq_getElem?_getD, he, Option.getD_some]; exact h.2 t v he

theorem CRel.level {F0 F : Frz} {L0 L : Lay} {lv : List Nat} {e : Env} {σ0 σ : Sto} {a : Act} {w0 w : World} (h : CRel bs F L lv e σ a w) (hF : ZbN L0 σ0) (hA : Adv F0 L0 w0 F L w)
  (hu : (σ.take σ0.length).all (AObj.under σ0.length) = true) : CRel bs F L (σ0.length :: lv) e σ a w := by
 refine ⟨h.env, h.defers, h.inv, h.full, fun l hl => ?_⟩
 rcases List.mem_cons.1 hl with rfl | hl
 ·refine ⟨?_, fun o ob ho hob => ?_⟩
  ·rcases Nat.eq_zero_or_pos σ0.length with h0 | h0
   ·omega
   ·have := h.inv.lt (σ0.length - 1) ((hA.evo _).ne_un (hF _ (by omega)))
    omega
  ·refine List.all_eq_true.1 hu ob (List.mem_of_getElem? (i := o) ?_)
   rw [List.getElem?_take, if_pos ho]; exact hob
 ·exact h.lv l hl

theorem AVal.names_mono {p q : Nat → Bool} (h : ∀ o, p o = true → q o = true) : ∀ (v : AVal), v.names p = true → v.names q = true := by
 intro v
 refine AVal.rec (motive_1 := fun v => v.names p = true → v.names q = true) (motive_2 := fun vs => AVal.namesL p vs = true → AVal.namesL q vs = true)
  ?_ ?_ ?_ ?_ ?_ ?_ ?_ ?_ ?_ ?_ ?_ ?_ ?_ ?_ ?_ ?_ ?_ ?_ ?_ ?_ ?_ ?_ ?_ v <;> intros <;> simp_all [AVal.names, AVal.namesL]

theorem ZgD {p : Nat → Bool} {v : AVal} (h : v.pure = true) : v.names p = true := AVal.names_mono (by simp) v h

def Low (L L' : Lay) : Prop := ∀ o loc gen, L' o = .live loc gen → L o = .live loc gen

theorem Low.refl (L : Lay) : Low L L := fun _ _ _ h => h
theorem Low.upd {L L' : Lay} (h : Low L L') (o : Nat) : Low L (Zaa L' o .dead) := by
 intro i loc gen hi
 by_cases e : i = o
 ·subst e; rw [Zk] at hi; simp at hi
 ·rw [ZL _ _ e] at hi; exact h _ _ _ hi

structure Deep (bs : Nat) (F : Frz) (L : Lay) (lv : List Nat) (e : Env) (σ' : Sto) (a : Act) (w : World) (F' : Frz) (L' : Lay) : Prop where
 rel : CRel bs F' L' lv e σ' a w
 adv : Adv F L w F' L' w
 low : Low L L'

theorem CRel.liveAt {F : Frz} {L : Lay} {lv : List Nat} {e : Env} {σ : Sto} {a : Act} {w : World} (h : CRel bs F L lv e σ a w) {o : Nat} {ob : AObj} (hσ : σ[o]? = some ob) (hd : ob ≠ .dead) : ∃ loc g, L o = .live loc g := by
 have hlt : o < σ.length := (List.getElem?_eq_some_iff.1 hσ).1
 cases hL : L o with
 | un => exact absurd hL (h.full o hlt)
 | dead => have := h.inv.dd o hL; rw [hσ] at this; exact absurd (Option.some.inj this) hd
 | live loc g => exact ⟨loc, g, rfl⟩

theorem Zfu {f : Sto → AVal → Option (AVal × Sto)} {lv : List Nat} {e : Env} {a : Act} {w : World}
  (hf : ∀ {σ : Sto} {v v' : AVal} {σ' : Sto}, f σ v = some (v', σ') → ∀ {F : Frz} {L : Lay}, CRel bs F L lv e σ a w → ∀ {cv : Value}, VRel F L v cv → ∃ F' L', Deep bs F L lv e σ' a w F' L' ∧ VRel F' L' v' cv ∧ v'.pure = true ∧ (v.one = true → v'.one = true) ∧ (v ≠ .und → v' ≠ .und)) :
  ∀ (cs : List AVal) {σ : Sto} {cs' : List AVal} {σ' : Sto}, Zan f σ cs = some (cs', σ') → ∀ {F : Frz} {L : Lay}, CRel bs F L lv e σ a w → ∀ {g : Nat → Value}, (∀ (p : Nat) (x : AVal), cs[p]? = some x → VRel F L x (g p)) →
  ∃ F' L', Deep bs F L lv e σ' a w F' L' ∧ cs'.length = cs.length ∧ (∀ (p : Nat) (x : AVal), cs'[p]? = some x → VRel F' L' x (g p)) ∧ AVal.pures cs' = true ∧ ((∀ c ∈ cs, c.one = true) → ∀ c ∈ cs', c.one = true)
 | [], σ, cs', σ', h, F, L, hR, g, hg => by
  obtain ⟨rfl, rfl⟩ := Prod.mk.inj (Option.some.inj h)
  exact ⟨F, L, ⟨hR, Adv.refl F L w, fun _ _ _ h => h⟩, rfl, fun p x hx => by simp at hx, rfl, fun _ c hc => by simp at hc⟩
 | x :: xs, σ, cs', σ', h, F, L, hR, g, hg => by
  simp only [Zan] at h
  split at h
  case h_2 => simp at h
  rename_i x' σ1 hx
  split at h
  case h_2 => simp at h
  rename_i xs' σ2 hxs
  obtain ⟨rfl, rfl⟩ := Prod.mk.inj (Option.some.inj h)
  obtain ⟨F1, L1, hD1, hv1, hp1, ho1, _⟩ := hf hx hR (hg 0 x rfl)
  obtain ⟨F2, L2, hD2, hl2, hv2, hp2, ho2⟩ := Zfu hf xs hxs hD1.rel (g := fun p => g (p + 1)) fun p y hy => hD1.adv.rel (hg (p + 1) y (by simpa using hy))
  refine ⟨F2, L2, ⟨hD2.rel, hD1.adv.trans hD2.adv, fun o loc gen ho => hD1.low _ _ _ (hD2.low _ _ _ ho)⟩, by simp [hl2], fun p y hy => ?_, ?_, fun hone c hc => ?_⟩
  ·cases p with
   | zero => simp at hy; subst hy; exact hD2.adv.rel hv1
   | succ p => exact hv2 p y (by simpa using hy)
  ·simp only [AVal.pures, AVal.namesL, Bool.and_eq_true]; exact ⟨hp1, hp2⟩
  ·rcases List.mem_cons.1 hc with rfl | hc
   ·exact ho1 (hone x (by simp))
   ·exact ho2 (fun c hc => hone c (by simp [hc])) c hc

theorem ZgE {lv : List Nat} {e : Env} {a : Act} {w : World} : ∀ (n : Nat) {σ : Sto} {v v' : AVal} {σ' : Sto}, Zab n σ v = some (v', σ') → ∀ {F : Frz} {L : Lay}, CRel bs F L lv e σ a w → ∀ {cv : Value}, VRel F L v cv →
  ∃ F' L', Deep bs F L lv e σ' a w F' L' ∧ VRel F' L' v' cv ∧ v'.pure = true ∧ (v.one = true → v'.one = true) ∧ (v ≠ .und → v' ≠ .und)
 | 0, σ, v, v', σ', h, F, L, hR, cv, hv => by simp [Zab] at h
 | n + 1, σ, v, v', σ', h, F, L, hR, cv, hv => by
  have hL := @Zfu _ _ bs (Zab n) lv e a w (fun {σ v v' σ'} h {F L} hR {cv} hv => ZgE n h hR hv)
  simp only [Zab] at h
  split at h
  ·rename_i hp
   obtain ⟨rfl, rfl⟩ := Prod.mk.inj (Option.some.inj h)
   exact ⟨F, L, ⟨hR, Adv.refl F L w, fun _ _ _ h => h⟩, hv, hp, fun h => h, fun h => h⟩
  split at h
  ·-- a slice
   rename_i o gen off len k _
   split at h
   case h_2 => simp at h
   rename_i nl cs hσ
   split at h
   case isFalse => simp at h
   rename_i hc
   obtain ⟨hgen, hle, hk⟩ := hc
   split at h
   case h_2 => simp at h
   rename_i cs' σ1 hd
   split at h
   case h_2 => simp at h
   rename_i nl1 cs1 hσ1
   obtain ⟨rfl, rfl⟩ := Prod.mk.inj (Option.some.inj h)
   obtain ⟨loc, g, hlive⟩ := hR.liveAt hσ (by simp)
   rcases hR.inv.readRef hv hσ hgen with ⟨rfl, rfl, rfl, rfl, rfl, hLo⟩ | ⟨b, top, c, elem, cap, rfl, hLo, hw, hlc, htop, hgc, hlen, hct, hcs, hone, hn, hrel⟩
   ·obtain ⟨rfl, rfl⟩ := Prod.mk.inj (Option.some.inj hd)
    have hlt : o < σ.length := hR.inv.lt o (by rw [hLo]; simp)
    obtain ⟨hI, hA⟩ := hR.inv.kill (o := o) (σ' := σ.set o .dead) (by rw [hLo]; simp) (by simp) (fun i _ hi => by rw [List.getElem?_set, if_neg (Ne.symm hi)]) (by simp [hlt])
    exact ⟨F, Zaa L o .dead, ⟨⟨hR.env.mono hA.frz hA.evo, hR.defers, hI, hR.full.upd (by simp) (by simp), hR.lv.dead o⟩, hA, (Low.refl L).upd o⟩, .nils, rfl, fun _ => rfl, fun _ => by simp⟩
   ·have hbr : (nl && cs.isEmpty) = false := by
     cases nl with
     | false => rfl
     | true => have := hn rfl; cases cs with
      | nil => exact absurd rfl this
      | cons _ _ => rfl
    rw [hbr]
    simp only [Bool.false_eq_true, if_false]
    obtain ⟨F1, L1, hD, hl1, hv1, hp1, ho1⟩ := hL cs hd hR (g := fun p => c.getD p undef) hrel
    obtain ⟨loc1, g1, hlive1⟩ := hD.rel.liveAt hσ1 (by simp)
    have := hD.low _ _ _ hlive1
    rw [hLo] at this
    injection this with e1 e2; subst e1; subst e2
    obtain ⟨F2, hR2, hA2, hfc, _⟩ := hD.rel.freeze hlive1 rfl
    refine ⟨F2, Zaa L1 o .dead, ⟨hR2, hD.adv.trans hA2, hD.low.upd o⟩, ?_, rfl, fun _ => rfl, fun _ => by simp⟩
    have hpure' := Zr.1 hp1
    have hone1 := ho1 hone
    have hl' : ((cs'.drop off).take (len * k)).length = len * k := by rw [List.length_take, List.length_drop]; omega
    have hone' : ∀ c ∈ (cs'.drop off).take (len * k), c.one = true := fun c hc => hone1 c (List.mem_of_mem_drop (List.mem_of_mem_take hc))
    have hfl := Zbf k hk len _ hl' hone'
    have hget' : ∀ p c, (ZV (ZY k len ((cs'.drop off).take (len * k))))[p]? = some c → cs'[off + p]? = some c := by
     intro p c hp
     rw [hfl, List.getElem?_take] at hp
     split at hp
     ·rwa [List.getElem?_drop] at hp
     ·simp at hp
    have := VRel.list (F := F2) (L := Zaa L1 o .dead) (xs := ZY k len ((cs'.drop off).take (len * k))) (a := ⟨b, off, none⟩) (cap := cap) (k := k) (fv := fun p => c.getD (off + p) undef)
     (fun _ => rfl) (by rw [Z0]; omega) (ZaT k hk _ _ hl' hone')
     (fun p x hp => by
      have h1 := hget' p x hp
      have := (List.getElem?_eq_some_iff.1 h1).1
      exact hfc _ _ (World.cell_of_heap hw (p := off + p) (by omega)))
     (fun p x hp => hone1 x (List.mem_of_getElem? (hget' p x hp)))
     (fun p x hp => ((hv1 _ x (hget' p x hp)).toPure (hpure' x (List.mem_of_getElem? (hget' p x hp))) noL).frz hA2.frz)
    rwa [Z0] at this
  ·-- a pointer
   rename_i o gen off _
   split at h
   case h_2 => simp at h
   rename_i nl cs hσ
   split at h
   case isFalse => simp at h
   rename_i hgen
   split at h
   case h_2 => simp at h
   rename_i cs' σ1 hd
   split at h
   case h_2 => simp at h
   rename_i nl1 cs1 hσ1
   obtain ⟨rfl, rfl⟩ := Prod.mk.inj (Option.some.inj h)
   obtain ⟨b, top, c, elem, rfl, hLo, hw, hct, hcs, hone, hn, hrel⟩ := hR.inv.readPtr hv hσ hgen
   obtain ⟨F1, L1, hD, hl1, hv1, hp1, ho1⟩ := hL cs hd hR (g := fun p => c.getD p undef) hrel
   obtain ⟨loc1, g1, hlive1⟩ := hD.rel.liveAt hσ1 (by simp)
   have := hD.low _ _ _ hlive1
   rw [hLo] at this
   injection this with e1 e2; subst e1; subst e2
   obtain ⟨F2, hR2, hA2, hfc, _⟩ := hD.rel.freeze hlive1 rfl
   refine ⟨F2, Zaa L1 o .dead, ⟨hR2, hD.adv.trans hA2, hD.low.upd o⟩, ?_, rfl, fun _ => rfl, fun _ => by simp⟩
   have hpure' := Zr.1 hp1
   have hone1 := ho1 hone
   have hget' : ∀ (p : Nat) (c : AVal), (cs'.drop off)[p]? = some c → cs'[off + p]? = some c := by intro p c hp; rwa [List.getElem?_drop] at hp
   exact VRel.fptr (fv := fun p => c.getD (off + p) undef) rfl
    (fun p x hp => by
     have h1 := hget' p x hp
     have := (List.getElem?_eq_some_iff.1 h1).1
     exact hfc _ _ (World.cell_of_heap hw (p := off + p) (by omega)))
    (fun p x hp => hone1 x (List.mem_of_getElem? (hget' p x hp)))
    (fun p x hp => ((hv1 _ x (hget' p x hp)).toPure (hpure' x (List.mem_of_getElem? (hget' p x hp))) noL).frz hA2.frz)
  ·-- a closure
   rename_i f fs cs _
   split at h
   case h_2 => simp at h
   rename_i fs' σ1 hd1
   split at h
   case h_2 => simp at h
   rename_i cs' σ2 hd2
   obtain ⟨rfl, rfl⟩ := Prod.mk.inj (Option.some.inj h)
   cases hv with
   | @clo _ _ _ _ fa ca hfl hcl hf hc hy =>
    obtain ⟨F1, L1, hD1, hl1, hv1, hp1, _⟩ := hL fs hd1 hR (g := fun p => fa.getD p undef) hf
    obtain ⟨F2, L2, hD2, hl2, hv2, hp2, _⟩ := hL cs hd2 hD1.rel (g := fun p => ca.getD p undef) fun p x hx => hD1.adv.rel (hc p x hx)
    refine ⟨F2, L2, ⟨hD2.rel, hD1.adv.trans hD2.adv, fun o loc gen ho => hD1.low _ _ _ (hD2.low _ _ _ ho)⟩, .clo (by omega) (by omega) (fun i c hi => hD2.adv.rel (hv1 i c hi)) hv2 hy, ?_, fun _ => rfl, fun _ => by simp⟩
    simp only [AVal.pure, AVal.names, Bool.and_eq_true]; exact ⟨hp1, hp2⟩
  ·-- an aggregate
   rename_i cs _
   split at h
   case h_2 => simp at h
   rename_i cs' σ1 hd1
   obtain ⟨rfl, rfl⟩ := Prod.mk.inj (Option.some.inj h)
   cases hv with
   | @agg _ _ ca hl hc =>
    obtain ⟨F1, L1, hD1, hl1, hv1, hp1, _⟩ := hL cs hd1 hR (g := fun p => ca.getD p undef) hc
    exact ⟨F1, L1, hD1, .agg (by omega) hv1, by simpa only [AVal.pure, AVal.names] using hp1, fun h => by simp [AVal.one] at h, fun _ => by simp⟩
  ·-- a tuple
   rename_i cs _
   split at h
   case h_2 => simp at h
   rename_i cs' σ1 hd1
   obtain ⟨rfl, rfl⟩ := Prod.mk.inj (Option.some.inj h)
   cases hv with
   | @tup _ _ ca hl hc =>
    obtain ⟨F1, L1, hD1, hl1, hv1, hp1, _⟩ := hL cs hd1 hR (g := fun p => ca.getD p undef) hc
    exact ⟨F1, L1, hD1, .tup (by omega) hv1, by simpa only [AVal.pure, AVal.names] using hp1, fun h => by simp [AVal.one] at h, fun _ => by simp⟩
  ·-- a map
   rename_i o _
   split at h
   case h_2 => simp at h
   rename_i ks vs hσ
   split at h
   case isFalse => simp at h
   rename_i hpk
   split at h
   case h_2 => simp at h
   rename_i vs' σ1 hd
   split at h
   case h_2 => simp at h
   rename_i ks1 vs1 hσ1
   obtain ⟨rfl, rfl⟩ := Prod.mk.inj (Option.some.inj h)
   obtain ⟨r, es, cl, rfl, hLo, hw, hent⟩ := hR.inv.readMap hv hσ
   obtain ⟨F1, L1, hD, hl1, hv1, hp1, _⟩ := hL vs hd hR (g := fun p => ((es.toList[p]?).map (·.val)).getD undef) fun p x hx => by
    obtain ⟨m, h1, h2⟩ := hent.2.2.2 p x hx
    simp only [h1, Option.map_some, Option.getD_some]; exact h2
   obtain ⟨loc1, g1, hlive1⟩ := hD.rel.liveAt hσ1 (by simp)
   have := hD.low _ _ _ hlive1
   rw [hLo] at this
   injection this with e1 e2; subst e1; subst e2
   obtain ⟨F2, hR2, hA2, _, hfm⟩ := hD.rel.freeze hlive1 rfl
   refine ⟨F2, Zaa L1 o .dead, ⟨hR2, hD.adv.trans hA2, hD.low.upd o⟩, ?_, rfl, fun _ => rfl, fun _ => by simp⟩
   have hp2 := Zr.1 hpk
   have hp3 := Zr.1 hp1
   have hlv : es.toList.length = vs.length := hent.2.1
   refine VRel.fmap (hfm es cl hw) (.inl rfl) (by simpa using hent.1) (by simp only [List.length_map]; omega) (fun i c hc' => ?_) (fun i c hc' => ?_)
   ·obtain ⟨m, h1, h2⟩ := hent.2.2.1 i c hc'
    simp only [List.getD_eq_getElem?_getD, List.getElem?_map, h1, Option.map_some, Option.getD_some]
    exact (h2.toPure (hp2 c (List.mem_of_getElem? hc')) noL).frz (hD.adv.trans hA2).frz
   ·have hi : i < es.toList.length := by have := (List.getElem?_eq_some_iff.1 hc').1; omega
    have h2 := hv1 i c hc'
    simp only [List.getElem?_eq_getElem hi, Option.map_some, Option.getD_some] at h2
    simp only [List.getD_eq_getElem?_getD, List.getElem?_map, List.getElem?_eq_getElem hi, Option.map_some, Option.getD_some]
    exact (h2.toPure (hp3 c (List.mem_of_getElem? hc')) noL).frz hA2.frz
  ·simp at h

theorem CRel.recells {F : Frz} {L : Lay} {lv : List Nat} {e : Env} {σ : Sto} {a : Act} {w : World} (h : CRel bs F L lv e σ a w) {o : Nat} {nl nl0 : Bool} {cs cs' : List AVal} (hσ : σ[o]? = some (.cells nl0 cs)) (hlen : cs'.length = cs.length) (hone : ∀ c ∈ cs', c.one = true) (hpure : AVal.pures cs' = true) (hnl : nl = nl0)
  (hv : ∀ b top gen c elem, L o = .live (.blk b top) gen → w.heap[b]? = some (.cells c elem (0, 0)) → ∀ (p : Nat) (x : AVal), cs'[p]? = some x → VRel F L x (c.getD p undef)) : CRel bs F L lv e (σ.set o (.cells nl cs')) a w := by
 subst hnl
 have hlt : o < σ.length := (List.getElem?_eq_some_iff.1 hσ).1
 refine ⟨h.env, h.defers, ⟨h.inv.fz, h.inv.fm, fun i loc gen hi => ?_, fun i hi => by simpa using h.inv.lt i hi, h.inv.inj, h.inv.sep, fun i hi => ?_, h.inv.gl⟩, fun i hi => h.full i (by simpa using hi), ?_⟩
 ·obtain ⟨ob, h1, h2⟩ := h.inv.obj i loc gen hi
  by_cases hio : i = o
  ·subst hio
   rw [hσ] at h1
   obtain rfl := Option.some.inj h1
   refine ⟨.cells nl cs', by simp [hlt], ?_⟩
   obtain ⟨h3, h4, h5⟩ := h2
   refine ⟨by omega, hone, ?_⟩
   cases loc with
   | blk b top =>
    obtain ⟨h6, c, elem, h7, h8, h9, hx⟩ := h5
    exact ⟨fun hn => by have := h6 hn; intro he; subst he; exact this (List.eq_nil_of_length_eq_zero (by simpa using hlen.symm)), c, elem, h7, h8, by omega, hv _ _ _ _ _ hi h7⟩
   | nil => obtain ⟨h6, rfl⟩ := h5; exact ⟨h6, List.eq_nil_of_length_eq_zero (by simpa using hlen)⟩
   | mp r => exact h5
  ·exact ⟨ob, by rw [List.getElem?_set, if_neg (Ne.symm hio)]; exact h1, h2⟩
 ·have := h.inv.dd i hi
  by_cases hio : i = o
  ·subst hio; rw [hσ] at this; simp at this
  ·rw [List.getElem?_set, if_neg (Ne.symm hio)]; exact this
 ·refine h.lv.setCells hσ fun l hl ho _ => ?_
  have hp := Zr.1 hpure
  exact Zr.2 fun x hx => ZgD (hp x hx)

def ZeS (σ σ' : Sto) : Prop := ∀ (o : Nat) (ob : AObj), σ'[o]? = some ob → ob = AObj.dead ∨ σ[o]? = some ob
theorem ZeS.refl (σ : Sto) : ZeS σ σ := fun _ _ h => .inr h
theorem ZeS.trans {a b c : Sto} (h : ZeS a b) (k : ZeS b c) : ZeS a c := fun o ob ho => by
 rcases k o ob ho with h' | h'
 ·exact .inl h'
 ·exact h o ob h'
theorem ZeS.dead {σ σ' : Sto} (h : ZeS σ σ') (o : Nat) : ZeS σ (σ'.set o .dead) := fun i ob hi => by
 rw [List.getElem?_set] at hi
 split at hi
 ·split at hi
  ·exact .inl (Option.some.inj hi).symm
  ·simp at hi
 ·exact h i ob hi

theorem Zem {f : Sto → AVal → Option (AVal × Sto)} (hf : ∀ {σ v v' σ'}, f σ v = some (v', σ') → ZeS σ σ') : ∀ (cs : List AVal) {σ : Sto} {cs' : List AVal} {σ' : Sto}, Zan f σ cs = some (cs', σ') → ZeS σ σ'
 | [], σ, cs', σ', h => by obtain ⟨_, rfl⟩ := Prod.mk.inj (Option.some.inj h); exact ZeS.refl _
 | x :: xs, σ, cs', σ', h => by
  simp only [Zan] at h
  split at h
  case h_2 => simp at h
  rename_i x' σ1 hx
  split at h
  case h_2 => simp at h
  rename_i xs' σ2 hxs
  obtain ⟨_, rfl⟩ := Prod.mk.inj (Option.some.inj h)
  exact (hf hx).trans (Zem hf xs hxs)

theorem ZgF : ∀ (n : Nat) {σ : Sto} {v v' : AVal} {σ' : Sto}, Zab n σ v = some (v', σ') → ZeS σ σ'
 | 0, σ, v, v', σ', h => by simp [Zab] at h
 | n + 1, σ, v, v', σ', h => by
  have hL := @Zem _ _ (Zab n) (fun {σ v v' σ'} h => ZgF n h)
  simp only [Zab] at h
  repeat' split at h
  all_goals first
   | (simp at h; done)
   | (obtain ⟨_, rfl⟩ := Prod.mk.inj (Option.some.inj h); first | exact ZeS.refl _ | exact (hL _ (by assumption)).dead _ | exact hL _ (by assumption) | exact (hL _ (by assumption)).trans (hL _ (by assumption)))

theorem ZoC {n : Nat} {σ σ1 : Sto} {cs cs' : List AVal} (hd : Zan (Zab n) σ cs = some (cs', σ1)) {o : Nat} {nl nl1 : Bool} {xs ys : List AVal} (hσ : σ[o]? = some (.cells nl xs)) (hσ1 : σ1[o]? = some (.cells nl1 ys)) : nl = nl1 := by
 rcases Zem (fun {σ v v' σ'} h => ZgF n h) cs hd o _ hσ1 with h | h
 ·simp at h
 ·rw [hσ] at h; injection h with h; injection h

theorem Zfv {F : Frz} {L : Lay} {lv : List Nat} {e : Env} {σ : Sto} {a : Act} {w : World} (h : CRel bs F L lv e σ a w) {g : Ghost} {e' : Env} {σ' : Sto} (hg : Zac g e σ = some (e', σ')) :
  ∃ F' L', CRel bs F' L' lv e' σ' a w ∧ Adv F L w F' L' w := by
 cases g with
 | kill ts =>
  obtain ⟨rfl, rfl⟩ := Prod.mk.inj (Option.some.inj hg)
  refine ⟨F, L, ⟨?_, h.defers, h.inv, h.full, h.lv⟩, Adv.refl F L w⟩
  have : ∀ (ts : List Nat) (e : Env), ZI F L e a.tmps → ZI F L (ts.foldl (fun e t => e.set t .und) e) a.tmps := by
   intro ts
   induction ts with
   | nil => intro e he; exact he
   | cons t ts ih => intro e he; exact ih _ (he.set .und)
  exact this ts e h.env
 | freeze t =>
  have hget := h.env.get t
  simp only [Zac] at hg
  split at hg
  ·rename_i o gen off len k hv
   rw [hv] at hget
   split at hg
   case h_2 => simp at hg
   rename_i nl cs hσ
   split at hg
   case isFalse => simp at hg
   rename_i hc
   obtain ⟨hgen, hle, hk, hpure⟩ := hc
   obtain ⟨rfl, rfl⟩ := Prod.mk.inj (Option.some.inj hg)
   generalize hcv : a.tmps.getD t undef = cv at hget
   rcases h.inv.readRef hget hσ hgen with ⟨rfl, rfl, rfl, rfl, rfl, hL⟩ | ⟨b, top, c, elem, cap, rfl, hL, hw, hlc, htop, hgc, hlen, hct, hcs, hone, hn, hrel⟩
   ·have hlt : o < σ.length := h.inv.lt o (by rw [hL]; simp)
    obtain ⟨hI, hA⟩ := h.inv.kill (o := o) (σ' := σ.set o .dead) (by rw [hL]; simp) (by simp) (fun i _ hi => by rw [List.getElem?_set, if_neg (Ne.symm hi)]) (by simp [hlt])
    refine ⟨F, Zaa L o .dead, ⟨(h.env.mono hA.frz hA.evo).set (by rw [hcv]; exact .nils), h.defers, hI, h.full.upd (by simp) (by simp), h.lv.dead o⟩, hA⟩
   ·have hbr : (nl && cs.isEmpty) = false := by
     cases nl with
     | false => rfl
     | true => have := hn rfl; cases cs with
      | nil => exact absurd rfl this
      | cons _ _ => rfl
    rw [hbr]
    simp only [Bool.false_eq_true, if_false]
    obtain ⟨F', hR, hA, hfc, _⟩ := h.freeze hL rfl
    refine ⟨F', Zaa L o .dead, ⟨hR.env.set ?_, hR.defers, hR.inv, hR.full, hR.lv⟩, hA⟩
    rw [hcv]
    have hpure' := Zr.1 hpure
    have hl' : ((cs.drop off).take (len * k)).length = len * k := by rw [List.length_take, List.length_drop]; omega
    have hone' : ∀ c ∈ (cs.drop off).take (len * k), c.one = true := fun c hc => hone c (List.mem_of_mem_drop (List.mem_of_mem_take hc))
    have hfl := Zbf k hk len _ hl' hone'
    have hget' : ∀ p c, (ZV (ZY k len ((cs.drop off).take (len * k))))[p]? = some c → cs[off + p]? = some c := by
     intro p c hp
     rw [hfl, List.getElem?_take] at hp
     split at hp
     ·rwa [List.getElem?_drop] at hp
     ·simp at hp
    have := VRel.list (F := F') (L := Zaa L o .dead) (xs := ZY k len ((cs.drop off).take (len * k))) (a := ⟨b, off, none⟩) (cap := cap) (k := k) (fv := fun p => c.getD (off + p) undef)
     (fun _ => rfl) (by rw [Z0]; omega) (ZaT k hk _ _ hl' hone')
     (fun p x hp => by
      have h1 := hget' p x hp
      have := (List.getElem?_eq_some_iff.1 h1).1
      exact hfc _ _ (World.cell_of_heap hw (p := off + p) (by omega)))
     (fun p x hp => hone x (List.mem_of_getElem? (hget' p x hp)))
     (fun p x hp => ((hrel _ x (hget' p x hp)).toPure (hpure' x (List.mem_of_getElem? (hget' p x hp))) noL).frz hA.frz)
    rwa [Z0] at this
  ·rename_i o gen off hv
   rw [hv] at hget
   split at hg
   case h_2 => simp at hg
   rename_i nl cs hσ
   split at hg
   case isFalse => simp at hg
   rename_i hc
   obtain ⟨hgen, hpure⟩ := hc
   obtain ⟨rfl, rfl⟩ := Prod.mk.inj (Option.some.inj hg)
   generalize hcv : a.tmps.getD t undef = cv at hget
   obtain ⟨b, top, c, elem, rfl, hL, hw, hct, hcs, hone, hn, hrel⟩ := h.inv.readPtr hget hσ hgen
   obtain ⟨F', hR, hA, hfc, _⟩ := h.freeze hL rfl
   refine ⟨F', Zaa L o .dead, ⟨hR.env.set ?_, hR.defers, hR.inv, hR.full, hR.lv⟩, hA⟩
   rw [hcv]
   have hpure' := Zr.1 hpure
   have hget' : ∀ (p : Nat) (c : AVal), (cs.drop off)[p]? = some c → cs[off + p]? = some c := by intro p c hp; rwa [List.getElem?_drop] at hp
   exact VRel.fptr (fv := fun p => c.getD (off + p) undef) rfl
    (fun p x hp => by
     have h1 := hget' p x hp
     have := (List.getElem?_eq_some_iff.1 h1).1
     exact hfc _ _ (World.cell_of_heap hw (p := off + p) (by omega)))
    (fun p x hp => hone x (List.mem_of_getElem? (hget' p x hp)))
    (fun p x hp => ((hrel _ x (hget' p x hp)).toPure (hpure' x (List.mem_of_getElem? (hget' p x hp))) noL).frz hA.frz)
  ·rename_i o hv
   rw [hv] at hget
   split at hg
   case h_2 => simp at hg
   rename_i ks vs hσ
   split at hg
   case isFalse => simp at hg
   rename_i hc
   obtain ⟨rfl, rfl⟩ := Prod.mk.inj (Option.some.inj hg)
   generalize hcv : a.tmps.getD t undef = cv at hget
   obtain ⟨r, es, cl, rfl, hL, hw, hent⟩ := h.inv.readMap hget hσ
   obtain ⟨F', hR, hA, _, hfm⟩ := h.freeze hL rfl
   refine ⟨F', Zaa L o .dead, ⟨hR.env.set ?_, hR.defers, hR.inv, hR.full, hR.lv⟩, hA⟩
   rw [hcv]
   have hp1 := Zr.1 hc.1
   have hp2 := Zr.1 hc.2
   refine VRel.fmap (hfm es cl hw) (.inl rfl) (by simpa using hent.1) (by simpa using hent.2.1) (fun i c hc' => ?_) (fun i c hc' => ?_)
   ·obtain ⟨m, h1, h2⟩ := hent.2.2.1 i c hc'
    simp only [List.getD_eq_getElem?_getD, List.getElem?_map, h1, Option.map_some, Option.getD_some]
    exact (h2.toPure (hp1 c (List.mem_of_getElem? hc')) noL).frz hA.frz
   ·obtain ⟨m, h1, h2⟩ := hent.2.2.2 i c hc'
    simp only [List.getD_eq_getElem?_getD, List.getElem?_map, h1, Option.map_some, Option.getD_some]
    exact (h2.toPure (hp2 c (List.mem_of_getElem? hc')) noL).frz hA.frz
  ·split at hg
   ·obtain ⟨rfl, rfl⟩ := Prod.mk.inj (Option.some.inj hg)
    exact ⟨F, L, h, Adv.refl F L w⟩
   ·simp at hg
 | dfreeze t =>
  have hget := h.env.get t
  simp only [Zac] at hg
  split at hg
  case h_2 => simp at hg
  rename_i v σ1 hd
  obtain ⟨rfl, rfl⟩ := Prod.mk.inj (Option.some.inj hg)
  obtain ⟨F', L', hD, hv, _⟩ := ZgE Zh hd h hget
  exact ⟨F', L', ⟨hD.rel.env.set hv, hD.rel.defers, hD.rel.inv, hD.rel.full, hD.rel.lv⟩, hD.adv⟩
 | inner t =>
  have key : ∀ {o gen : Nat} {nl : Bool} {cs : List AVal}, σ[o]? = some (.cells nl cs) → cs.length = gen → ∀ {cs' : List AVal} {σ1 : Sto}, Zan (Zab Zh) σ cs = some (cs', σ1) → ∀ {nl1 : Bool} {cs1 : List AVal}, σ1[o]? = some (.cells nl1 cs1) →
    ∃ F' L', CRel bs F' L' lv e (σ1.set o (.cells nl cs')) a w ∧ Adv F L w F' L' w := by
   intro o gen nl cs hσ hgen cs' σ1 hd nl1 cs1 hσ1
   obtain ⟨loc, g, hL⟩ := h.liveAt hσ (by simp)
   obtain ⟨ob, h1, h2⟩ := h.inv.obj o loc g hL
   rw [hσ] at h1
   obtain rfl := Option.some.inj h1
   obtain ⟨k1, k2, k3⟩ := h2
   have fin : ∀ {F' : Frz} {L' : Lay} (c : Array Value), Deep bs F L lv e σ1 a w F' L' → cs'.length = cs.length → AVal.pures cs' = true → (∀ x ∈ cs', x.one = true) → (∀ b top gen c' elem, L o = .live (.blk b top) gen → w.heap[b]? = some (.cells c' elem (0, 0)) → ∀ (p : Nat) (x : AVal), cs'[p]? = some x → VRel F' L' x (c'.getD p undef)) →
     ∃ F' L', CRel bs F' L' lv e (σ1.set o (.cells nl cs')) a w ∧ Adv F L w F' L' w := by
    intro F' L' c hD hl hp ho hv
    obtain ⟨loc1, g1, hlive1⟩ := hD.rel.liveAt hσ1 (by simp)
    obtain ⟨ob1, j1, j2⟩ := hD.rel.inv.obj o loc1 g1 hlive1
    rw [hσ1] at j1
    obtain rfl := Option.some.inj j1
    have hsame := hD.low _ _ _ hlive1
    rw [hL] at hsame
    injection hsame with e1 e2; subst e1; subst e2
    have hlen1 : cs1.length = cs.length := by have := j2.1; omega
    -- the mark of an empty slice stays
    have hl1 : nl = nl1 ∨ cs' = cs' := .inr rfl
    refine ⟨F', L', ?_, hD.adv⟩
    have hw2 : nl = nl1 → CRel bs F' L' lv e (σ1.set o (.cells nl cs')) a w := fun hn => hD.rel.recells hσ1 (by omega) ho hp hn fun b top gen c elem hl hw => hv b top gen c elem (hD.low _ _ _ hl) hw
    exact hw2 (ZoC hd hσ hσ1)
   cases loc with
   | mp r => exact k3.elim
   | nil =>
    obtain ⟨_, rfl⟩ := k3
    obtain ⟨rfl, rfl⟩ := Prod.mk.inj (Option.some.inj hd)
    exact fin #[] ⟨h, Adv.refl F L w, fun _ _ _ h => h⟩ rfl rfl (fun x hx => by simp at hx) fun _ _ _ _ _ _ _ p x hx => by simp at hx
   | blk b top =>
    obtain ⟨k4, c, elem, k5, k6, k7, k8⟩ := k3
    obtain ⟨F1, L1, hD, hl1, hv1, hp1, ho1⟩ := Zfu (fun {σ v v' σ'} h {F L} hR {cv} hv => ZgE Zh h hR hv) cs hd h (g := fun p => c.getD p undef) k8
    refine fin c hD hl1 hp1 (ho1 k2) fun b' top' gen' c' elem' hl' hw' p x hx => ?_
    rw [hL] at hl'
    injection hl' with e1 e2; injection e1 with e3 e4
    subst e3
    rw [k5] at hw'
    injection hw' with hw'; injection hw' with e5
    subst e5
    exact hv1 p x hx
  simp only [Zac] at hg
  repeat' split at hg
  all_goals first
   | (simp at hg; done)
   | skip
  all_goals
   obtain ⟨rfl, rfl⟩ := Prod.mk.inj (Option.some.inj hg)
   exact key (by assumption) (by assumption) (by assumption) (by assumption)
 | nilref t k =>
  have hget := h.env.get t
  simp only [Zac] at hg
  split at hg
  case h_2 => simp at hg
  rename_i hv
  rw [hv] at hget
  obtain ⟨rfl, rfl⟩ := Prod.mk.inj (Option.some.inj hg)
  have hun := h.inv.unFresh (Nat.le_refl σ.length)
  have := h.inv.change (o := σ.length) (loc := .nil) (gen := 0) (ob := .cells true []) (σ' := σ ++ [.cells true []]) (w' := w) (by simp) (fun i hi _ => List.getElem?_append_left hi) (by simp)
   (by rw [hun]; trivial) rfl rfl rfl (Nat.le_refl _) (fun b hb => by simp [Loc.block?] at hb) (fun _ _ _ => rfl) ⟨rfl, fun c hc => by simp at hc, rfl, rfl⟩
  refine ⟨F, _, ⟨(h.env.mono this.2.frz this.2.evo).set ?_, h.defers, this.1, fun i hi => ?_, h.lv.append _⟩, this.2⟩
  ·generalize a.tmps.getD t undef = q at hget
   cases hget
   refine .ref (by rw [Zk]; simp) ⟨_, _, _, rfl⟩ (fun loc g hl => by rw [Zk] at hl; injection hl with _ e; omega) (fun loc hl => ?_)
   rw [Zk] at hl; injection hl with e1 e2; subst e1
   exact ⟨rfl, rfl, rfl⟩
  ·by_cases e : i = σ.length
   ·subst e; rw [Zk]; simp
   ·rw [ZL _ _ e]; exact h.full i (by simp at hi; omega)

 | nilagg t off k =>
  have hget := h.env.get t
  simp only [Zac, Option.map_eq_some_iff] at hg
  obtain ⟨v, hv, hg⟩ := hg
  obtain ⟨rfl, rfl⟩ := Prod.mk.inj hg
  unfold ZdO at hv
  split at hv
  case h_2 => simp at hv
  rename_i cs hcs
  split at hv
  case h_2 => simp at hv
  rename_i hoff
  obtain rfl := Option.some.inj hv
  rw [hcs] at hget
  have hun := h.inv.unFresh (Nat.le_refl σ.length)
  have := h.inv.change (o := σ.length) (loc := .nil) (gen := 0) (ob := .cells true []) (σ' := σ ++ [.cells true []]) (w' := w) (by simp) (fun i hi _ => List.getElem?_append_left hi) (by simp)
   (by rw [hun]; trivial) rfl rfl rfl (Nat.le_refl _) (fun b hb => by simp [Loc.block?] at hb) (fun _ _ _ => rfl) ⟨rfl, fun c hc => by simp at hc, rfl, rfl⟩
  refine ⟨F, _, ⟨(h.env.mono this.2.frz this.2.evo).set ?_, h.defers, this.1, fun i hi => ?_, h.lv.append _⟩, this.2⟩
  ·have hget' := hget.mono this.2.frz this.2.evo
   generalize a.tmps.getD t undef = q at hget hget'
   cases hget' with
   | agg hl hc =>
    refine .agg (by simpa using hl) fun i c hi => ?_
    rw [List.getElem?_set] at hi
    split at hi
    ·rename_i e
     subst e
     split at hi
     ·obtain rfl := Option.some.inj hi
      have h0 := hc off .nils hoff
      generalize Array.getD _ off undef = q at h0
      cases h0
      refine .ref (by rw [Zk]; simp) ⟨_, _, _, rfl⟩ (fun loc g hl => by rw [Zk] at hl; injection hl with _ e; omega) (fun loc hl => ?_)
      rw [Zk] at hl; injection hl with e1 e2; subst e1
      exact ⟨rfl, rfl, rfl⟩
     ·simp at hi
    ·exact hc i c hi
  ·by_cases e : i = σ.length
   ·subst e; rw [Zk]; simp
   ·rw [ZL _ _ e]; exact h.full i (by simp at hi; omega)

theorem Adv.postC {F F' : Frz} {L L' : Lay} {w w' : World} (hA : Adv F L w F' L' w') {lv : List Nat} {Q : Zg} {x : Exit} {a : Act} {w'' : World} (h : Zlb bs F' L' w' lv Q x a w'') : Zlb bs F L w lv Q x a w'' := by
 obtain ⟨x', e', σ', F2, L2, h1, h2, h3, h4⟩ := h
 exact ⟨x', e', σ', F2, L2, h1, h2, h3, hA.trans h4⟩

theorem Zme {F : Frz} {L : Lay} {e : Env} {a : Act} (h : ZI F L e a.tmps) (hg : Ziv F) {c : Operand} {c' : Opd} (hc : ZR c = some c') {t : Bool} (ht : ev e c' = .bool t) : a.eval c = .bool t := by
 have := h.reads hg c c' hc
 rw [ht] at this
 generalize a.eval c = q at this
 cases this; rfl

theorem Zda {cw : Zz} (hC : CallsOk P cw) (hP : Z7 P cw) {lv : List Nat} {ops : Array Oper} {Q : Exit → Act → World → Prop} : ∀ (aos : List GOp) (os : List Oper), os.mapM (Zct P ops) = some ((aos.filterMap GOp.oper?).map AOper.strip) →
  ∀ {e : Env} {σ : Sto} {K : Env → Sto → Prop}, Zad cw lv aos e σ K → ∀ {F : Frz} {L : Lay} {a : Act} {w : World}, CRel bs F L lv e σ a w →
  (∀ e' σ' F' L' a' w', K e' σ' → CRel bs F' L' lv e' σ' a' w' → Adv F L w F' L' w' → Q .normal a' w') → wpListIn (Fr rd) 0 P ops Q os a w
 | [], [], _, e, σ, K, h, F, L, a, w, hR, hK => hK _ _ _ _ _ _ h hR (Adv.refl F L w)
 | [], o :: os, hm, e, σ, K, h, F, L, a, w, hR, hK => by
  have := (ZC _ hm).1; simp at this
 | .gh g :: aos, os, hm, e, σ, K, h, F, L, a, w, hR, hK => by
  simp only [Zad] at h
  split at h
  case h_2 => exact h.elim
  rename_i e' σ' hgh
  obtain ⟨F', L', hR', hA⟩ := Zfv hR hgh
  exact Zda hC hP aos os (by simpa only [List.filterMap_cons, GOp.oper?] using hm) h hR' fun e'' σ'' F'' L'' a'' w'' hk hR'' hA' => hK _ _ _ _ _ _ hk hR'' (hA.trans hA')
 | .op ao :: aos, [], hm, e, σ, K, h, F, L, a, w, hR, hK => by simp [GOp.oper?] at hm
 | .op ao :: aos, o :: os, hm, e, σ, K, h, F, L, a, w, hR, hK => by
  simp only [List.filterMap_cons, GOp.oper?] at hm
  simp only [List.mapM_cons, List.map_cons, Option.pure_def, Option.bind_eq_bind, Option.bind_eq_some_iff] at hm
  obtain ⟨x, hx, xs, hxs, heq⟩ := hm
  obtain ⟨rfl, rfl⟩ := List.cons.inj (Option.some.inj heq)
  simp only [Zct, Option.some.injEq] at hx
  have e1 : (cOp P o).getD .unsup = ao.op.strip := congrArg AOper.op hx
  have e2 : ao.dst = o.dst := (congrArg AOper.dst hx).symm
  have e3 : ao.guard = o.guard.map fun (j, want) => ((ops[j]?).bind (·.dst), want) := (congrArg AOper.guard hx).symm
  simp only [Zad, Zu] at h
  unfold wpListIn
  split at h
  ·rename_i hw
   rw [ZaZ hR.env e3 hw, if_pos rfl]
   refine (Zgn hC hP (Zdx e1 (Zgm h)) e2 h hR fun e' σ' F' L' a' w' hq hR' hA => ?_)
   exact Zda hC hP aos os hxs hq hR' fun e'' σ'' F'' L'' a'' w'' hk hR'' hA' => hK _ _ _ _ _ _ hk hR'' (hA.trans hA')
  ·rename_i hw
   rw [ZaZ hR.env e3 hw, if_neg (by simp)]
   exact ⟨fun _ _ => trivial, Zda hC hP aos os hxs h ⟨by rw [e2]; exact hR.env.put Zb0, by rw [Act.put_defers]; exact hR.defers, hR.inv, hR.full, hR.lv⟩ hK⟩
  ·exact h.elim

theorem ZfM {σ : Sto} : ∀ {args : List AVal}, AVal.pures args = true → args.mapM (Zn σ Zh) = some args
 | [], _ => rfl
 | x :: xs, h => by
  simp only [AVal.pures, AVal.namesL, Bool.and_eq_true] at h
  have : Zn σ Zh x = some x := by
   unfold Zh
   unfold Zn
   rw [if_pos h.1]
  simp only [List.mapM_cons, this, ZfM h.2, Option.pure_def, Option.bind_eq_bind, Option.bind_some]

theorem Zix (T : FuncId → Option AFunc) (n : Nat) {f : FuncId} {args : List AVal} {lv : List Nat} {σ σh : Sto} {Q Q' : Zs} (h : ZD T n true f args lv σ Q) (hp : AVal.pures args = true) (hq : ∀ v, Q v σ → Q' v σh) : ZD T n true f args lv σh Q' := by
 cases n with
 | zero => simp [ZD] at h
 | succ n =>
  simp only [ZD, ZfM hp] at h ⊢
  cases hf : T f with
  | none => rw [hf] at h; exact h.elim
  | some af =>
   rw [hf] at h
   simp only at h ⊢
   refine Z2 (ZE T (Nat.le_refl n)) (Nat.le_refl n) _ (fun x e σ' h => ZbZ (fun v σ'' h => ?_) h) h
   split at h
   ·exact ⟨h.1, hq _ h.2⟩
   ·exact h.elim
theorem ZdB (T : FuncId → Option AFunc) (n : Nat) : ZjC (ZD T n) := fun h hp hq => Zix T n h hp hq

theorem Zmf {b : ACode} {aos : List AOper} {c : ACode} (h : .seq (.region false aos) c = b.strip) (hs : b.headMv = true) : ∃ aos' b', b = .seq (.region false aos') b' ∧ aos'.map AOper.strip = aos ∧ b'.strip = c ∧ Zgk aos' = true := by
 unfold ACode.headMv at hs
 split at hs
 case h_2 => simp at hs
 rename_i x y
 simp only [Bool.and_eq_true, Bool.not_eq_true'] at hs
 obtain ⟨hs, hhd⟩ := hs
 have h' : ACode.seq (.region false aos) c = .seq (.region false (x.map AOper.strip)) y.strip := by
  rw [h]; simp only [ACode.strip]
  rw [if_neg (by simp [ACode.isGhost]), if_neg (by rw [hs]; simp)]
 injection h' with h1 h2
 injection h1 with _ h1
 exact ⟨x, y, rfl, h1.symm, h2.symm, hhd⟩

theorem ZW {g : Operand} {ps : Array Tmp} {as b : Code} {c : ACode} (h : ZO P (.rangeFunc g ps as b) = some c) : ∃ x b', c = .rangeF x ps.toList b' := by
 simp only [ZO] at h
 split at h
 ·exact ⟨_, _, (Option.some.inj h).symm⟩
 ·simp at h

theorem Zen (hmix : P.follows .mixedOrders = true) (hlp : Zl4 P) {cw : Zz} (hD : Det cw) (hX : ZjC cw) (hC : CallsOk P cw) (hP : Z7 P cw) {n : Nat} : ∀ (c : ACode) {code : Code}, ZO P code = some c.strip → c.plan = true → c.okR rd.isSome = true → ∀ {lv : List Nat} {e : Env} {σ : Sto} {Q : Zg}, Zf cw n lv c e σ Q →
  ∀ {F : Frz} {L : Lay} {a : Act} {w : World}, CRel bs F L lv e σ a w → code.wpIn (Fr rd) 0 P (Zlb bs F L w lv Q) a w := by
 intro c
 induction c with
 | skip =>
  intro code hc hpl hok lv e σ Q h F L a w hR
  cases code <;> simp only [ZO, ACode.strip, reduceCtorEq, Option.map_eq_some_iff, and_false, exists_false] at hc
  case skip => exact wpIn_skip ⟨.normal, e, σ, F, L, trivial, h, hR, Adv.refl F L w⟩
  case label => exact wpIn_label ⟨.normal, e, σ, F, L, trivial, h, hR, Adv.refl F L w⟩
  all_goals first | (obtain ⟨_, _, hr⟩ := ZW hc; cases hr; done) | (repeat' split at hc) <;> (simp at hc; done) | (rename_i dr; cases dr <;> simp [ZO] at hc; done)
 | region d ops =>
  intro code hc hpl hok lv e σ Q h F L a w hR
  cases code <;> simp only [ZO, ACode.strip, reduceCtorEq, Option.map_eq_some_iff, and_false, exists_false] at hc
  case region id os dr =>
   cases dr with
   | false =>
    simp only [ZO, Option.map_eq_some_iff, ACode.region.injEq] at hc
    obtain ⟨aos, hm, rfl, rfl⟩ := hc
    exact wpIn_region_list (ZdP hC hP _ _ hm h hR fun e' σ' F' L' a' w' hq hR' hA => ⟨.normal, e', σ', F', L', trivial, hq, hR', hA⟩)
   | true =>
    simp only [ZO, Option.map_eq_some_iff, ACode.region.injEq] at hc
    obtain ⟨aos, hm, rfl, rfl⟩ := hc
    have hlen := (ZC _ hm).1
    refine ZkD hD hC hP hmix (by simpa using hlen.symm) (fun i ao hi => ?_) (by simpa [ACode.plan] using hpl) h hR fun e' σ' F' L' a' w' hq hR' hA => ⟨.normal, e', σ', F', L', trivial, hq, hR', hA⟩
    obtain ⟨o, ho, hx⟩ := ZU _ hm (show (ops.map AOper.strip)[i]? = some ao.strip by simp [hi])
    simp only [Zip, Zct, Option.map_some, Option.some.injEq] at hx
    exact ⟨o, by simpa using ho, ⟨congrArg AOper.op hx, (congrArg AOper.dst hx).symm, (congrArg AOper.guard hx).symm, (congrArg AOper.after hx).symm, (congrArg AOper.reads hx).symm⟩⟩
  all_goals first | (obtain ⟨_, _, hr⟩ := ZW hc; cases hr; done) | (repeat' split at hc) <;> (simp at hc; done) | (rename_i dr; cases dr <;> simp [ZO] at hc; done)
 | regionG xs =>
  intro code hc hpl hok lv e σ Q h F L a w hR
  cases code <;> simp only [ZO, ACode.strip, reduceCtorEq, Option.map_eq_some_iff, and_false, exists_false] at hc
  case region id os dr =>
   cases dr with
   | false =>
    simp only [ZO, Option.map_eq_some_iff, ACode.region.injEq] at hc
    obtain ⟨aos, hm, _, rfl⟩ := hc
    exact wpIn_region_list (Zda hC hP _ _ hm h hR fun e' σ' F' L' a' w' hq hR' hA => ⟨.normal, e', σ', F', L', trivial, hq, hR', hA⟩)
   | true =>
    simp only [ZO, Option.map_eq_some_iff, ACode.region.injEq] at hc
    obtain ⟨aos, hm, hb, _⟩ := hc
    exact absurd hb (by simp)
  all_goals first | (obtain ⟨_, _, hr⟩ := ZW hc; cases hr; done) | (repeat' split at hc) <;> (simp at hc; done) | (rename_i dr; cases dr <;> simp [ZO] at hc; done)
 | regionA c m ops =>
  intro code hc hpl hok lv e σ Q h F L a w hR
  cases code <;> simp only [ZO, ACode.strip, reduceCtorEq, Option.map_eq_some_iff, and_false, exists_false] at hc
  case region id os dr =>
   cases dr with
   | false =>
    simp only [ZO, Option.map_eq_some_iff, ACode.region.injEq] at hc
    obtain ⟨aos, hm, hb, _⟩ := hc
    exact absurd hb (by simp)
   | true =>
    simp only [ZO, Option.map_eq_some_iff, ACode.region.injEq] at hc
    obtain ⟨aos, hm, _, rfl⟩ := hc
    have hlen := (ZC _ hm).1
    refine Zml hD hC hP hmix (by simpa using hlen.symm) (fun i ao hi => ?_) (by simpa [ACode.plan] using hpl) h hR fun e' σ' F' L' a' w' hq hR' hA => ⟨.normal, e', σ', F', L', trivial, hq, hR', hA⟩
    obtain ⟨o, ho, hx⟩ := ZU _ hm (show (ops.map AOper.strip)[i]? = some ao.strip by simp [hi])
    simp only [Zip, Zct, Option.map_some, Option.some.injEq] at hx
    exact ⟨o, by simpa using ho, ⟨congrArg AOper.op hx, (congrArg AOper.dst hx).symm, (congrArg AOper.guard hx).symm, (congrArg AOper.after hx).symm, (congrArg AOper.reads hx).symm⟩⟩
  all_goals first | (obtain ⟨_, _, hr⟩ := ZW hc; cases hr; done) | (repeat' split at hc) <;> (simp at hc; done) | (rename_i dr; cases dr <;> simp [ZO] at hc; done)
 | regionD s ops =>
  intro code hc hpl hok lv e σ Q h F L a w hR
  cases code <;> simp only [ZO, ACode.strip, reduceCtorEq, Option.map_eq_some_iff, and_false, exists_false] at hc
  case region id os dr =>
   cases dr with
   | false =>
    simp only [ZO, Option.map_eq_some_iff, ACode.region.injEq] at hc
    obtain ⟨aos, hm, hb, _⟩ := hc
    exact absurd hb (by simp)
   | true =>
    simp only [ZO, Option.map_eq_some_iff, ACode.region.injEq] at hc
    obtain ⟨aos, hm, _, rfl⟩ := hc
    have hlen := (ZC _ hm).1
    refine Zmi hD hX hP hmix (by simpa using hlen.symm) (fun i ao hi => ?_) (by simpa [ACode.plan] using hpl) h hR fun e' σ' F' L' a' w' hq hR' hA => ⟨.normal, e', σ', F', L', trivial, hq, hR', hA⟩
    obtain ⟨o, ho, hx⟩ := ZU _ hm (show (ops.map AOper.strip)[i]? = some ao.strip by simp [hi])
    simp only [Zip, Zct, Option.map_some, Option.some.injEq] at hx
    exact ⟨o, by simpa using ho, ⟨congrArg AOper.op hx, (congrArg AOper.dst hx).symm, (congrArg AOper.guard hx).symm, (congrArg AOper.after hx).symm, (congrArg AOper.reads hx).symm⟩⟩
  all_goals first | (obtain ⟨_, _, hr⟩ := ZW hc; cases hr; done) | (repeat' split at hc) <;> (simp at hc; done) | (rename_i dr; cases dr <;> simp [ZO] at hc; done)
 | seq x y ihx ihy =>
  intro code hc hpl hok lv e σ Q h F L a w hR
  simp only [Zf] at h
  simp only [ACode.strip] at hc
  split at hc
  ·rename_i hg
   cases x <;> simp only [ACode.isGhost, Bool.false_eq_true] at hg
   rename_i g
   simp only [Zf] at h
   split at h
   case h_2 => exact h.elim
   rename_i e' σ' hgh
   obtain ⟨F', L', hR', hA⟩ := Zfv hR hgh
   exact wpIn_mono (ihy hc (by simp only [ACode.plan, Bool.and_eq_true] at hpl; exact hpl.2) (by simp only [ACode.okR, Bool.and_eq_true] at hok; exact hok.2) h hR') fun x a' w' hp => hA.postC hp
  ·split at hc
   ·rename_i hg
    cases y <;> simp only [ACode.isGhost, Bool.false_eq_true] at hg
    rename_i g
    refine wpIn_mono (ihx hc (by simp only [ACode.plan, Bool.and_eq_true] at hpl; exact hpl.1) (by simp only [ACode.okR, Bool.and_eq_true] at hok; exact hok.1) h hR) fun x a' w' hp => ?_
    obtain ⟨x', e', σ', F', L', h1, h2, h3, h4⟩ := hp
    cases x' with
    | normal =>
     simp only [Zf] at h2
     split at h2
     case h_2 => exact h2.elim
     rename_i e2 σ2 hgh
     obtain ⟨F2, L2, hR2, hA2⟩ := Zfv h3 hgh
     exact ⟨.normal, e2, σ2, F2, L2, h1, h2, hR2, h4.trans hA2⟩
    | exit i => exact ⟨.exit i, e', σ', F', L', h1, h2, h3, h4⟩
    | ret => exact ⟨.ret, e', σ', F', L', h1, h2, h3, h4⟩
   ·cases code
    case region id os dr => cases dr <;> simp [ZO] at hc
    all_goals try simp only [ZO, reduceCtorEq, Option.map_eq_some_iff, and_false, exists_false] at hc
    case seq cx cy =>
     split at hc
     case h_2 => simp at hc
     rename_i ax ay hx hy
     injection hc with hc; injection hc with e1 e2
     subst e1; subst e2
     refine wpIn_seq (wpIn_mono (ihx hx (by simp only [ACode.plan, Bool.and_eq_true] at hpl; exact hpl.1) (by simp only [ACode.okR, Bool.and_eq_true] at hok; exact hok.1) h hR) fun x a' w' hp => ?_)
     obtain ⟨x', e', σ', F', L', h1, h2, h3, h4⟩ := hp
     cases x' with
     | normal =>
      cases x <;> simp only [Zax] at h1
      exact wpIn_mono (ihy hy (by simp only [ACode.plan, Bool.and_eq_true] at hpl; exact hpl.2) (by simp only [ACode.okR, Bool.and_eq_true] at hok; exact hok.2) h2 h3) fun x a'' w'' hp => h4.postC hp
     | exit i =>
      cases x <;> simp only [Zax] at h1
      exact ⟨.exit i, e', σ', F', L', h1, h2, h3, h4⟩
     | ret =>
      cases x <;> simp only [Zax] at h1
      exact ⟨.ret, e', σ', F', L', h1, h2, h3, h4⟩
    all_goals first | (obtain ⟨_, _, hr⟩ := ZW hc; cases hr; done) | (repeat' split at hc) <;> (simp at hc; done) | (rename_i dr; cases dr <;> simp [ZO] at hc; done)
 | cond c x y ihx ihy =>
  intro code hc hpl hok lv e σ Q h F L a w hR
  cases code <;> simp only [ZO, ACode.strip, reduceCtorEq, Option.map_eq_some_iff, and_false, exists_false] at hc
  case cond cc cx cy =>
   split at hc
   case h_2 => simp at hc
   rename_i ac ax ay hcc hx hy
   injection hc with hc; injection hc with e1 e2 e3
   subst e1; subst e2; subst e3
   simp only [Zf] at h
   split at h
   case h_2 => exact h.elim
   rename_i t ht
   have hev := Zme hR.env hR.inv.gl hcc ht
   cases t with
   | true => simp only [if_true] at h; exact wpIn_cond_true hev (ihx hx (by simp only [ACode.plan, Bool.and_eq_true] at hpl; exact hpl.1) (by simp only [ACode.okR, Bool.and_eq_true] at hok; exact hok.1) h hR)
   | false => simp only [Bool.false_eq_true, if_false] at h; exact wpIn_cond_false hev (ihy hy (by simp only [ACode.plan, Bool.and_eq_true] at hpl; exact hpl.2) (by simp only [ACode.okR, Bool.and_eq_true] at hok; exact hok.2) h hR)
  all_goals first | (obtain ⟨_, _, hr⟩ := ZW hc; cases hr; done) | (repeat' split at hc) <;> (simp at hc; done) | (rename_i dr; cases dr <;> simp [ZO] at hc; done)
 | block id b ih =>
  intro code hc hpl hok lv e σ Q h F L a w hR
  cases code <;> simp only [ZO, ACode.strip, reduceCtorEq, Option.map_eq_some_iff, and_false, exists_false] at hc
  case block id' b' =>
   obtain ⟨ab, hb, hc⟩ := hc
   injection hc with e1 e2
   subst e1; subst e2
   simp only [Zf] at h
   refine wpIn_block (wpIn_mono (ih hb hpl hok h hR) fun x a' w' hp => ?_)
   obtain ⟨x', e', σ', F', L', h1, h2, h3, h4⟩ := hp
   cases x' with
   | normal =>
    cases x <;> simp only [Zax] at h1
    exact ⟨.normal, e', σ', F', L', trivial, h2, h3, h4⟩
   | exit i =>
    cases x <;> simp only [Zax] at h1
    subst h1
    simp only [Exit.inBlock]
    split
    ·rename_i hi; simp only [if_pos hi] at h2; exact ⟨.normal, e', σ', F', L', trivial, h2, h3, h4⟩
    ·rename_i hi; simp only [if_neg hi] at h2; exact ⟨.exit i, e', σ', F', L', rfl, h2, h3, h4⟩
   | ret =>
    cases x <;> simp only [Zax] at h1
    exact ⟨.ret, e', σ', F', L', trivial, h2, h3, h4⟩
  all_goals first | (obtain ⟨_, _, hr⟩ := ZW hc; cases hr; done) | (repeat' split at hc) <;> (simp at hc; done) | (rename_i dr; cases dr <;> simp [ZO] at hc; done)
 | loop b ih =>
  intro code hc hpl hok lv e σ Q h F L a w hR
  cases code <;> simp only [ZO, ACode.strip, reduceCtorEq, Option.map_eq_some_iff, and_false, exists_false] at hc
  case loop b' =>
   obtain ⟨ab, hb, hc⟩ := hc
   injection hc with e2
   subst e2
   simp only [Zf] at h
   refine wpIn_loop_ghost (fun m a' w' => ∃ e' σ' F' L', Zbx (Zf cw n lv b) m e' σ' Q ∧ CRel bs F' L' lv e' σ' a' w' ∧ Adv F L w F' L' w') n ⟨e, σ, F, L, h, hR, Adv.refl F L w⟩ ?_
   rintro m a1 w1 ⟨e1, σ1, F1, L1, h1, h2, h3⟩
   cases m with
   | zero => exact h1.elim
   | succ m =>
    simp only [Zbx] at h1
    refine wpIn_mono (ih hb hpl hok h1 h2) fun x a' w' hp => ?_
    obtain ⟨x', e', σ', F', L', q1, q2, q3, q4⟩ := hp
    cases x' with
    | normal =>
     cases x <;> simp only [Zax] at q1
     exact ⟨m, by omega, e', σ', F', L', q2, q3, h3.trans q4⟩
    | exit i =>
     cases x <;> simp only [Zax] at q1
     exact ⟨.exit i, e', σ', F', L', q1, q2, q3, h3.trans q4⟩
    | ret =>
     cases x <;> simp only [Zax] at q1
     exact ⟨.ret, e', σ', F', L', q1, q2, q3, h3.trans q4⟩
  all_goals first | (obtain ⟨_, _, hr⟩ := ZW hc; cases hr; done) | (repeat' split at hc) <;> (simp at hc; done) | (rename_i dr; cases dr <;> simp [ZO] at hc; done)
 | exit id =>
  intro code hc hpl hok lv e σ Q h F L a w hR
  cases code <;> simp only [ZO, ACode.strip, reduceCtorEq, Option.map_eq_some_iff, and_false, exists_false] at hc
  case exit id' =>
   injection hc with hc; injection hc with e1; subst e1
   exact wpIn_exit ⟨.exit _, e, σ, F, L, rfl, h, hR, Adv.refl F L w⟩
  all_goals first | (obtain ⟨_, _, hr⟩ := ZW hc; cases hr; done) | (repeat' split at hc) <;> (simp at hc; done) | (rename_i dr; cases dr <;> simp [ZO] at hc; done)
 | ret =>
  intro code hc hpl hok lv e σ Q h F L a w hR
  cases code <;> simp only [ZO, ACode.strip, reduceCtorEq, Option.map_eq_some_iff, and_false, exists_false] at hc
  case ret => exact wpIn_ret ⟨.ret, e, σ, F, L, trivial, h, hR, Adv.refl F L w⟩
  all_goals first | (obtain ⟨_, _, hr⟩ := ZW hc; cases hr; done) | (repeat' split at hc) <;> (simp at hc; done) | (rename_i dr; cases dr <;> simp [ZO] at hc; done)
 | trunc b ih =>
  intro code hc hpl hok lv e σ Q h F L a w hR
  simp only [ACode.strip] at hc
  simp only [Zf] at h
  refine wpIn_mono (ih hc hpl hok h hR) fun x a' w' hp => ?_
  obtain ⟨x', e', σ', F', L', h1, h2, h3, h4⟩ := hp
  have hcut := fun hu => (h3.level hR.full h4 hu).cut (fun l hl => (hR.lv l hl).1) (fun o ho => hR.inv.lt o ho) h4
  cases x' with
  | normal => exact ⟨.normal, _, _, F', _, h1, h2.2, (hcut h2.1).1, (hcut h2.1).2⟩
  | exit i => exact ⟨.exit i, _, _, F', _, h1, h2.2, (hcut h2.1).1, (hcut h2.1).2⟩
  | ret => exact ⟨.ret, e', σ', F', L', h1, h2, h3, h4⟩
 | scope b ih =>
  intro code hc hpl hok lv e σ Q h F L a w hR
  cases code <;> simp only [ZO, ACode.strip, reduceCtorEq, Option.map_eq_some_iff, and_false, exists_false] at hc
  case scope b' =>
   obtain ⟨ab, hb, hc⟩ := hc
   injection hc with e1
   subst e1
   simp only [Zf] at h
   refine ZdY (wpIn_mono (ih hb hpl hok h hR) fun x a' w' hp => ?_)
   obtain ⟨x', e', σ', F', L', h1, h2, h3, h4⟩ := hp
   cases x <;> first | exact ⟨x', e', σ', F', L', h1, h2, h3, h4⟩ | (cases x' <;> exact h1.elim)
  all_goals first | (obtain ⟨_, _, hr⟩ := ZW hc; cases hr; done) | (repeat' split at hc) <;> (simp at hc; done) | (rename_i dr; cases dr <;> simp [ZO] at hc; done)
 | ghost g =>
  intro code hc hpl hok lv e σ Q h F L a w hR
  cases code <;> simp only [ZO, ACode.strip, reduceCtorEq, Option.map_eq_some_iff, and_false, exists_false] at hc
  all_goals first | (obtain ⟨_, _, hr⟩ := ZW hc; cases hr; done) | (repeat' split at hc) <;> (simp at hc; done) | (rename_i dr; cases dr <;> simp [ZO] at hc; done)

 | rangeF x ps body ih =>
  intro code hc hpl hok lv e σ Q h F L a w hR
  cases code <;> simp only [ZO, ACode.strip, reduceCtorEq, Option.map_eq_some_iff, and_false, exists_false] at hc
  case rangeFunc g psA as bodyC =>
   simp only [ACode.okR, Bool.and_eq_true, Bool.not_eq_true', Option.isSome_eq_false_iff, Option.isNone_iff_eq_none] at hok
   obtain ⟨⟨rfl, hhd⟩, hok⟩ := hok
   split at hc
   case h_2 => simp at hc
   rename_i ax aos ab hg has hb
   injection hc with hc; injection hc with e1 e2 e3
   subst e1; subst e2
   obtain ⟨aos', b', rfl, rfl, rfl, hho⟩ := Zmf e3 hhd
   have hlpb : glp (.seq (.region false aos') b') as bodyC := (hlp _ _ _).2 ⟨aos', b', rfl, has, hb, by simp only [ACode.plan, Bool.and_eq_true] at hpl; exact hpl.2, by simp only [ACode.okR, Bool.and_eq_true] at hok; exact hok.2, hho⟩
   exact ZjG hC hg hlpb h hR
  all_goals first | (obtain ⟨_, _, hr⟩ := ZW hc; cases hr; done) | (repeat' split at hc) <;> (simp at hc; done) | (rename_i dr; cases dr <;> simp [ZO] at hc; done)

def ZgG (tmps : Array Value) (r : ResultVar) : Sem Value :=
 match r with
 | .tmp t => pure (tmps.getD t undef)
 | .cell ad t => do loadVar t (← asAddr (tmps.getD ad undef))

theorem ZgH (fn : Func) (tmps : Array Value) : results fn tmps = (do
  let vs ← fn.results.mapM (ZgG tmps)
  pure (if h : vs.size = 1 then vs[0] else .tuple vs)) := rfl

theorem Zmg {F : Frz} {L : Lay} {lv : List Nat} {e : Env} {σ : Sto} {a : Act} {w : World} (hR : CRel bs F L lv e σ a w) {fn : Func} {rs : List ARes} (hc : fn.results.toList.mapM (Zks P) = some rs) {v : AVal}
  (hv : ZP rs e σ = some v) : ∃ cv, (results fn a.tmps).run P w = .ok cv w ∧ VRel F L v cv := by
 have one : ∀ (r : ResultVar) (ar : ARes), Zks P r = some ar → ∀ u, Zhj e σ ar = some u → ∃ cv, (ZgG a.tmps r).run P w = .ok cv w ∧ VRel F L u cv := by
  intro r ar hr u hu
  cases r with
  | tmp t =>
   simp only [Zks] at hr
   obtain rfl := Option.some.inj hr
   simp only [Zhj] at hu
   obtain rfl := Option.some.inj hu
   exact ⟨_, rfl, hR.env.get t⟩
  | cell ad t =>
   simp only [Zks] at hr
   split at hr
   case h_2 => simp at hr
   rename_i ag n hag hsz
   obtain rfl := Option.some.inj hr
   have hget := hR.env.get ad
   simp only [Zhj] at hu
   split at hu
   case h_2 => simp at hu
   rename_i o gen off hp
   rw [hp] at hget
   split at hu
   case h_2 => simp at hu
   rename_i nl cs hσ
   split at hu
   case isFalse => simp at hu
   rename_i hg
   obtain ⟨cv, h1, h2⟩ := Zlh (P := P) hR.inv hag hsz hget hσ hg hu
   refine ⟨cv, ?_, h2⟩
   have hptr : ∃ b, a.tmps.getD ad undef = .pointer (some b) := by
    generalize a.tmps.getD ad undef = q at hget
    cases hget with
    | ptr h0 h1 h2 h => exact h1
   obtain ⟨b, hb⟩ := hptr
   show (do loadVar t (← asAddr (a.tmps.getD ad undef)) : Sem Value).run P w = _
   rw [hb] at h1 ⊢
   simpa [Instr.loadAt, Instr.sureAddr, asAddr] using h1
 have all : ∀ (l : List ResultVar) (rs : List ARes), l.mapM (Zks P) = some rs → ∀ (us : List AVal), rs.mapM (Zhj e σ) = some us → ∃ cvs : List Value, (l.mapM (ZgG a.tmps)).run P w = .ok cvs w ∧ cvs.length = us.length ∧ ∀ (i : Nat) u, us[i]? = some u → VRel F L u (cvs.getD i undef) := by
  intro l
  induction l with
  | nil =>
   intro rs hrs us hus
   simp at hrs; subst hrs
   simp at hus; subst hus
   exact ⟨[], rfl, rfl, fun i u h => by simp at h⟩
  | cons r l ih =>
   intro rs hrs us hus
   simp only [List.mapM_cons, Option.pure_def, Option.bind_eq_bind, Option.bind_eq_some_iff] at hrs
   obtain ⟨ar, har, rs', hrs', heq⟩ := hrs
   obtain rfl := Option.some.inj heq
   simp only [List.mapM_cons, Option.pure_def, Option.bind_eq_bind, Option.bind_eq_some_iff] at hus
   obtain ⟨u, hu, us', hus', heq⟩ := hus
   obtain rfl := Option.some.inj heq
   obtain ⟨cv, h1, h2⟩ := one r ar har u hu
   obtain ⟨cvs, h3, h4, h5⟩ := ih rs' hrs' us' hus'
   refine ⟨cv :: cvs, ?_, by simp [h4], fun i x hi => ?_⟩
   ·simp only [List.mapM_cons, Sem.run_bind, h1, Result.andThen_ok, h3, Sem.run_pure]
   ·cases i with
    | zero => simp at hi; subst hi; simpa using h2
    | succ i => have := h5 i x (by simpa using hi); simpa using this
 unfold ZP at hv
 split at hv
 ·rename_i u hm
  obtain rfl := Option.some.inj hv
  obtain ⟨cvs, h1, h2, h3⟩ := all _ _ hc _ hm
  have := h3 0 u rfl
  obtain ⟨c, rfl⟩ : ∃ c, cvs = [c] := by
   cases cvs with
   | nil => simp at h2
   | cons c l => cases l with
    | nil => exact ⟨c, rfl⟩
    | cons _ _ => simp at h2
  simp at this
  refine ⟨c, ?_, this⟩
  rw [ZgH, Sem.run_bind]
  have hm' : (fn.results.mapM (ZgG a.tmps)).run P w = .ok #[c] w := by
   rw [← Array.toArray_toList (xs := fn.results), List.mapM_toArray, Sem.run_map, h1]; rfl
  rw [hm']; rfl
 ·rename_i us hne hm
  obtain rfl := Option.some.inj hv
  obtain ⟨cvs, h1, h2, h3⟩ := all _ _ hc _ hm
  refine ⟨.tuple cvs.toArray, ?_, .tup (by simpa using h2) fun i c hi => by have := h3 i c hi; simpa [Array.getD_eq_getD_getElem?, List.getD_eq_getElem?_getD] using this⟩
  rw [ZgH, Sem.run_bind]
  have hm' : (fn.results.mapM (ZgG a.tmps)).run P w = .ok cvs.toArray w := by
   rw [← Array.toArray_toList (xs := fn.results), List.mapM_toArray, Sem.run_map, h1]; rfl
  rw [hm']
  have hsz : cvs.toArray.size ≠ 1 := by
   intro h
   have hl : us.length = 1 := by rw [← h2]; simpa using h
   cases us with
   | nil => simp at hl
   | cons u l => cases l with
    | nil => exact hne u rfl
    | cons _ _ => simp at hl
  simp only [Result.andThen_ok]
  rw [dif_neg hsz]; rfl
 ·simp at hv

theorem Zjx {F : Frz} {L : Lay} {args : List AVal} {cargs : Array Value} (h : ZK F L args cargs) (n : Nat) : ZI F L (Zah n args) (cargs ++ Array.replicate (n - cargs.size) undef) := by
 refine ⟨by simp [Zah, h.1], fun t v hv => ?_⟩
 unfold Zah at hv
 rcases Nat.lt_or_ge t args.length with ht | ht
 ·rw [List.getElem?_append_left ht] at hv
  have := h.2 t v hv
  rw [Array.getD_eq_getD_getElem?, Array.getElem?_append_left (by rw [h.1]; exact ht), ← Array.getD_eq_getD_getElem?]; exact this
 ·rw [List.getElem?_append_right ht, List.getElem?_replicate] at hv
  split at hv
  ·obtain rfl := Option.some.inj hv; exact .und
  ·simp at hv

theorem ZhG {F : Frz} {L : Lay} {lv : List Nat} {e : Env} {σ : Sto} {a : Act} {w : World} (hR : CRel bs F L lv e σ a w) {fn : Func} {af : AFunc} (hc : fn.results.toList.mapM (Zks P) = some af.results) {x : AExit} {ex : Exit} (hx : Zax x ex)
  {Q : Zs} (h : Zcp af x e σ Q) {R : Ending → World → Prop}
  (hK : ∀ v cv w', Q v σ → VRel F L v cv → CRel bs F L lv e σ { a with defers := [] } w' → (∀ {F0 : Frz} {L0 : Lay} {w0 : World}, w0.heap.size ≤ bs → Adv F0 L0 w0 F L w → Adv F0 L0 w0 F L w') → R (.returned cv) w') : bodyPostM (Fr none) 0 P fn R ex a w := by
 have main : ∀ {v : AVal}, ZP af.results e σ = some v → Q v σ → LeavesInM (Fr none) 0 P fn a.tmps R a.defers .returning w := by
  intro v hv hq
  obtain ⟨h0, Ds, hd, hnd, hm⟩ := hR.defers
  rw [hd]
  refine ZfP Ds hnd hm hR.inv fun w' hI' hs hA => ?_
  have hsz : bs ≤ w'.heap.size := by rw [hs]; exact h0
  have hR' : CRel bs F L lv e σ { a with defers := [] } w' := ⟨hR.env, Zau.nil hsz, hI', hR.full, hR.lv⟩
  obtain ⟨cv, h1, h2⟩ := Zmg hR' hc hv
  exact ⟨cv, h1, hK v cv w' hq h2 hR' hA⟩
 unfold Zcp at h
 cases x with
 | exit i => exact h.elim
 | normal =>
  cases ex <;> simp only [Zax] at hx
  simp only at h
  split at h
  case h_2 => exact h.elim
  rename_i v hv
  exact main hv h
 | ret =>
  cases ex <;> simp only [Zax] at hx
  simp only at h
  split at h
  case h_2 => exact h.elim
  rename_i v hv
  exact main hv h

theorem Zo.fn {f : FuncId} {af : AFunc} (h : Zo P f af) : ∃ fn, P.funcs[f]? = some fn ∧ fn.body.isSome ∧ (fn.name == "runtime.NumGoroutine") = false := by
 obtain ⟨fn, code, h1, h2, h3, _⟩ := h
 exact ⟨fn, h1, by simp [h2], h3⟩

theorem Zjy (hmix : P.follows .mixedOrders = true) (hlp : Zl4 P) {T : FuncId → Option AFunc} (hT : ∀ f af, T f = some af → Zo P f af) {n : Nat} (hC : CallsOk P (ZD T n)) (hP : Z7 P (ZD T n)) : ∀ {f : FuncId} {args : List AVal} {lv : List Nat} {σ : Sto} {Q : Zs},
  ZD T (n + 1) false f args lv σ Q → ZeJ (.func f) = true → ∀ {F : Frz} {L : Lay} {w : World} {cargs : Array Value}, ZK F L args cargs → Inv F L σ w → ZbN L σ → ZaH lv σ →
  (∃ fn, P.funcs[f]? = some fn ∧ fn.body.isSome ∧ (fn.name == "runtime.NumGoroutine") = false) ∧
  Calls P f cargs w fun e w' => ∃ v cv σ' F' L', e = .returned cv ∧ Q v σ' ∧ VRel F' L' v cv ∧ Inv F' L' σ' w' ∧ ZbN L' σ' ∧ ZaH lv σ' ∧ Adv F L w F' L' w' := by
 intro f args lv σ Q h hfy F L w cargs har hI hF hl
 simp only [ZD] at h
 split at h
 case h_2 => simp [ZeJ, h.1] at hfy
 rename_i af haf
 have hfo := hT f af haf
 refine ⟨hfo.fn, ?_⟩
 obtain ⟨fn, code, h1, h2, h3, h4, h5, ⟨hpl, hokr⟩, h6⟩ := hfo
 have hinit : CRel w.heap.size F L lv (Zah af.ntmps args) σ { tmps := cargs ++ Array.replicate (fn.ntmps - cargs.size) undef, defers := [] } w := ⟨by rw [h4]; exact Zjx har _, Zau.nil (Nat.le_refl _), hI, hF, hl⟩
 refine ZfL (m := 0) (callsIn_of_wp_marks h1 h2 trivial (wpIn_mono (Zen (rd := none) hmix hlp (ZaX T n) (ZdB T n) hC hP _ h5 hpl hokr h hinit) fun x a' w' hp => ?_))
 obtain ⟨x', e', σ', F', L', q1, q2, q3, q4⟩ := hp
 refine ZhG q3 h6 q1 q2 fun v cv w2 hq hv q3 hA2 => ?_
 have q4 := hA2 (Nat.le_refl _) q4
 unfold ZdW at hq
 split at hq
 ·obtain ⟨k1, k2, k3⟩ := hq
  have hcut := (q3.level hF q4 k2).cut (fun l hl' => (hl l hl').1) (fun o ho => hI.lt o ho) q4
  exact ⟨v, cv, _, F', _, rfl, k3, hv.cut k1, hcut.1.inv, hcut.1.full, hcut.1.lv, hcut.2⟩
 ·exact ⟨v, cv, σ', F', L', rfl, hq, hv, q3.inv, q3.full, q3.lv, q4⟩

theorem ZhH {σ : Sto} : ∀ {args as : List AVal}, args.mapM (Zn σ Zh) = some as → AVal.pures args = true → as = args
 | [], as, h, _ => by simp at h; exact h
 | x :: xs, as, h, hp => by
  simp only [List.mapM_cons, Option.pure_def, Option.bind_eq_bind, Option.bind_eq_some_iff] at h
  obtain ⟨y, hy, ys, hys, heq⟩ := h
  obtain rfl := Option.some.inj heq
  simp only [AVal.pures, AVal.namesL, Bool.and_eq_true] at hp
  have : Zn σ Zh x = some x := by
   unfold Zh
   unfold Zn
   rw [if_pos hp.1]
  rw [this] at hy
  obtain rfl := Option.some.inj hy
  rw [ZhH hys hp.2]

open Classical in
noncomputable def Zca (F : Frz) (L : Lay) : Frz where
 cells b off := if Zap L b then none else F.cells b off
 maps r := if Zap L r then none else F.maps r

theorem ZdR : ∀ {vs : List AVal}, AVal.flats vs = true ↔ ∀ (i : Nat) (v : AVal), vs[i]? = some v → v.flat = true
 | [] => by simp [AVal.flats]
 | v :: vs => by
  simp only [AVal.flats, Bool.and_eq_true, ZdR (vs := vs)]
  constructor
  ·rintro ⟨h1, h2⟩ i w hw
   cases i with
   | zero => simp at hw; exact hw ▸ h1
   | succ i => exact h2 i w (by simpa using hw)
  ·intro h
   exact ⟨h 0 v rfl, fun i w hw => h (i + 1) w (by simpa using hw)⟩

theorem VRel.flat {F : Frz} {L : Lay} {v : AVal} {cv : Value} (h : VRel F L v cv) : v.flat = true → ∀ (F' : Frz) (L' : Lay), VRel F' L' v cv := by
 induction h with
 | und => intros; exact .und
 | bool => intros; exact .bool
 | int => intros; exact .int
 | str => intros; exact .str
 | nils => intros; exact .nils
 | emp => intro h; simp [AVal.flat] at h
 | list => intro h; simp [AVal.flat] at h
 | ref => intro h; simp [AVal.flat] at h
 | nilp => intros; exact .nilp
 | fptr => intro h; simp [AVal.flat] at h
 | ptr => intro h; simp [AVal.flat] at h
 | nilm => intros; exact .nilm
 | fmap => intro h; simp [AVal.flat] at h
 | map => intro h; simp [AVal.flat] at h
 | nilf => intros; exact .nilf
 | yld => intro h; simp [AVal.flat] at h
 | clo hfl hcl hf hc hy ihf ihc =>
  intro h F' L'
  simp only [AVal.flat, Bool.and_eq_true, ZdR] at h
  exact .clo hfl hcl (fun i c hi => ihf i c hi (h.1 i c hi) F' L') (fun i c hi => ihc i c hi (h.2 i c hi) F' L') hy
 | nili => intros; exact .nili
 | iface h ho ih => intro hf F' L'; exact .iface (ih hf F' L') ho
 | agg hl hc ih =>
  intro h F' L'
  simp only [AVal.flat, ZdR] at h
  exact .agg hl fun i c hi => ih i c hi (h i c hi) F' L'
 | tup hl hc ih =>
  intro h F' L'
  simp only [AVal.flat, ZdR] at h
  exact .tup hl fun i c hi => ih i c hi (h i c hi) F' L'

theorem ZkA (hmix : P.follows .mixedOrders = true) (hlp : Zl4 P) {T : FuncId → Option AFunc} (hT : ∀ f af, T f = some af → Zo P f af) {n : Nat} (hC : CallsOk P (ZD T n)) (hP : Z7 P (ZD T n)) : ∀ {f : FuncId} {args : List AVal} {lv : List Nat} {σ : Sto} {Q : Zs},
  ZD T (n + 1) true f args lv σ Q → ∃ v, Q v σ ∧ (∃ fn, P.funcs[f]? = some fn ∧ fn.body.isSome ∧ (fn.name == "runtime.NumGoroutine") = false) ∧
  ∀ {F : Frz} {L : Lay} {σs : Sto} {w : World} {cargs : Array Value}, ZK F L args cargs → Inv F L σs w → (∀ i, i < σ.length → σs[i]? = σ[i]?) →
  Calls P f cargs w fun e w' => ∃ cv F', e = .returned cv ∧ VRel F' L v cv ∧ Inv F' L σs w' ∧ Adv F L w F' L w' := by
 intro f args lv σ Q h
 simp only [ZD] at h
 split at h
 case h_2 => exact h.elim
 rename_i as af has haf
 have hfo := hT f af haf
 obtain ⟨x, e, σ', h1, h2⟩ := ZeG (ZaX T n) _ h
 obtain ⟨v, h3, h4⟩ := Zio h1
 split at h3
 case h_2 => exact h3.elim
 rename_i v' hv'
 refine ⟨v', h3.2, hfo.fn, ?_⟩
 intro F L σs w cargs har hI hpre
 obtain ⟨fn, code, g1, g2, g3, g4, g5, ⟨hpl, hokr⟩, g6⟩ := hfo
 -- the run, for whatever it is asked
 have hrun := @h2 (fun x e σ' => Zcp af x e σ' fun v'' σ'' => v'' = v ∧ Zn σ'' Zh v'' = some v') (h4 ⟨rfl, hv'⟩)
 -- the memory that the callee sees
 obtain ⟨Fc, hFc, hIc, harc, hFle, hsame⟩ : ∃ Fc : Frz, (∀ b, ¬ Zap L b → (∀ off, Fc.cells b off = F.cells b off) ∧ Fc.maps b = F.maps b) ∧ Inv Fc noL [] w ∧ ZK Fc noL as cargs ∧ F.Le Fc ∧
   (AVal.pures args = true → ∀ b, Zap L b → (∀ off, Fc.cells b off = none) ∧ Fc.maps b = none) := by
  by_cases hp : AVal.pures args = true
  ·refine ⟨F, fun b _ => ⟨fun _ => rfl, rfl⟩, ⟨hI.fz, hI.fm, fun o loc gen h => by simp [noL] at h, fun o h => absurd rfl h, fun o o' l l' g g' b h => by simp [noL] at h, fun b hb => absurd hb (ZaE b), fun o h => by simp [noL] at h, hI.gl⟩, ?_, Frz.Le.refl F, fun _ b hb => hI.sep b hb⟩
   rw [ZhH has hp]
   have hp' := Zr.1 hp
   exact ⟨har.1, fun i c hc => (har.2 i c hc).toPure (hp' c (List.mem_of_getElem? hc)) noL⟩
  ·refine ⟨ZX F L w, fun b hb => ⟨fun off => by simp only [ZX, if_neg hb], by simp only [ZX, if_neg hb]⟩, hI.frozen [], ?_, Zb8 hI, fun h => absurd h hp⟩
   obtain ⟨m1, m2⟩ := ZC _ has
   refine ⟨har.1.trans m1.symm, fun i c hc => ?_⟩
   obtain ⟨y, hy, hs⟩ := ZU _ has hc
   exact ZhC hI hpre _ hs (har.2 i y hy)
 have hinit : CRel w.heap.size Fc noL [] (Zah af.ntmps as) [] { tmps := cargs ++ Array.replicate (fn.ntmps - cargs.size) undef, defers := [] } w :=
  ⟨by rw [g4]; exact Zjx harc _, Zau.nil (Nat.le_refl _), hIc, fun o ho => by simp at ho, fun l hl => by simp at hl⟩
 refine ZfL (m := 0) (callsIn_of_wp_marks g1 g2 trivial (wpIn_mono (Zen (rd := none) hmix hlp (ZaX T n) (ZdB T n) hC hP _ g5 hpl hokr hrun hinit) fun ex a' w0' hp => ?_))
 obtain ⟨x', e', σ2, F2, L2, q1, q2, q3, q4⟩ := hp
 refine ZhG q3 g6 q1 q2 fun u cv w' hq hv q3 hA2 => ?_
 have q4 := hA2 (Nat.le_refl _) q4
 obtain ⟨rfl, hsn⟩ := hq
 -- all that the callee made is frozen
 have hv3 := ZhC q3.inv (fun _ _ => rfl) _ hsn hv
 have hI3 := q3.inv.frozen ([] : Sto)
 have hle3 := Zb8 q3.inv
 have hown2 : ∀ b, b < w.heap.size → ¬ Zap L2 b := fun b hb ho => ZaE b (q4.own b hb ho)
 -- the caller's memory lies as it lay
 have hkeep : ∀ b, b < w.heap.size → w'.heap[b]? = w.heap[b]? := fun b hb => q4.keep b hb (ZaE b)
 have h3old : ∀ b, b < w.heap.size → (∀ off, (ZX F2 L2 w').cells b off = Fc.cells b off) ∧ (ZX F2 L2 w').maps b = Fc.maps b := by
  intro b hb
  obtain ⟨k1, k2⟩ := q4.fkeep b hb (ZaE b)
  simp only [ZX, if_neg (hown2 b hb)]
  exact ⟨k1, k2⟩
 let F4 := Zca (ZX F2 L2 w') L
 have hF4 : F.Le F4 := by
  constructor
  ·intro b off u hu
   have hn : ¬ Zap L b := fun ho => by have := (hI.sep b ho).1 off; rw [this] at hu; simp at hu
   have hb : b < w.heap.size := World.cell?_lt (hI.fz _ _ _ hu)
   simp only [F4, Zca, if_neg hn, (h3old b hb).1, (hFc b hn).1]; exact hu
  ·intro r kv hu
   have hn : ¬ Zap L r := fun ho => by have := (hI.sep r ho).2; rw [this] at hu; simp at hu
   obtain ⟨es, cl, hw, _⟩ := hI.fm _ _ hu
   have hb : r < w.heap.size := (Array.getElem?_eq_some_iff.1 hw).1
   simp only [F4, Zca, if_neg hn, (h3old r hb).2, (hFc r hn).2]; exact hu
 have hI4 : Inv F4 L σs w' := by
  refine ⟨fun b off u hu => ?_, fun r kv hu => ?_, fun o loc gen ho => ?_, hI.lt, hI.inj, fun b hb => by simp only [F4, Zca, if_pos hb]; exact ⟨fun _ => trivial, trivial⟩, hI.dd, hI.glLe hF4⟩
  ·simp only [F4, Zca] at hu
   split at hu
   ·simp at hu
   ·exact hI3.fz _ _ _ hu
  ·simp only [F4, Zca] at hu
   split at hu
   ·simp at hu
   ·exact hI3.fm _ _ hu
  ·obtain ⟨ob, k1, k2⟩ := hI.obj o loc gen ho
   exact ⟨ob, k1, k2.mono hF4 (Evo.refl L) fun b hb => hkeep b (k2.heap hb)⟩
 refine ⟨cv, F4, rfl, ?_, hI4, ⟨hF4, Evo.refl L, q4.os, q4.tape, q4.output, q4.size, fun b _ h => h, fun b hb _ => hkeep b hb, fun b hb hn => ?_⟩⟩
 ·rcases h3.1 with hp | hfl
  ·refine (hv3.ofNo L).frz ⟨fun b off u hu => ?_, fun r kv hu => ?_⟩
   ·by_cases ho : Zap L b
    ·have hb := hI.old ho
     have k1 := (h3old b hb).1 off
     rw [hu, (hsame hp b ho).1] at k1; simp at k1
    ·simp only [F4, Zca, if_neg ho]; exact hu
   ·by_cases ho : Zap L r
    ·have hb := hI.old ho
     have k1 := (h3old r hb).2
     rw [hu, (hsame hp r ho).2] at k1; simp at k1
    ·simp only [F4, Zca, if_neg ho]; exact hu
  ·exact hv3.flat hfl F4 L
 ·simp only [F4, Zca, if_neg hn, (h3old b hb).1, (h3old b hb).2, (hFc b hn).1, (hFc b hn).2]
  exact ⟨fun _ => trivial, trivial⟩

theorem Zd6 {cw : Zz} {lv : List Nat} : ∀ (a b : List AOper) {e : Env} {σ : Sto} {K : Env → Sto → Prop}, Zu cw lv (a ++ b) e σ K = Zu cw lv a e σ fun e σ => Zu cw lv b e σ K
 | [], b, e, σ, K => rfl
 | o :: a, b, e, σ, K => by
  simp only [List.cons_append, Zu]
  have ih := fun {e σ} => Zd6 a b (cw := cw) (lv := lv) (e := e) (σ := σ) (K := K)
  cases hw : ZN o e with
  | none => rfl
  | some v =>
   cases v with
   | false => exact ih
   | true =>
    have : (fun e' σ' => Zu cw lv (a ++ b) e' σ' K) = fun e' σ' => Zu cw lv a e' σ' fun e σ => Zu cw lv b e σ K := by
     funext e' σ'; exact ih
    simp only [this]
theorem ZhI {l : List AOper} (h : Zjb l = true) : ∃ t z x1 x2 m s x3 x4, l = [⟨some t, .alloc z, none, x1, x2⟩, ⟨none, .store m (.tmp t) (.tmp s), none, x3, x4⟩] := by
 unfold Zjb at h
 split at h
 ·have := eq_of_beq h
  subst this
  exact ⟨_, _, _, _, _, _, _, _, rfl⟩
 ·cases h
theorem ZkB {c1 c2 : List AOper} (h : Zjb (c2.map AOper.strip) = true) (hh : Zgk (c1 ++ c2) = true) : ∃ t z x1 x2 m s x3 x4, c2 = [⟨some t, .alloc z, none, x1, x2⟩, ⟨none, .store m (.tmp t) (.tmp s), none, x3, x4⟩] := by
 obtain ⟨t, z, x1, x2, m, s, x3, x4, e⟩ := ZhI h
 have hl : c2.length = 2 := by have := congrArg List.length e; simpa using this
 simp only [Zgk, Bool.or_eq_true] at hh
 rcases hh with hh | hh
 ·rw [List.all_append, Bool.and_eq_true] at hh
  have := hh.2
  rw [← Zep, e] at this
  simp [AOper.isMv] at this
 ·rw [Bool.and_eq_true] at hh
  have := hh.2
  rw [List.length_append, hl, Nat.add_sub_cancel, List.drop_left] at this
  exact ZhI this
theorem ZpV {cw : Zz} {lv : List Nat} {t m s : Nat} {z : List AVal} {x1 x2 x3 x4 : List Nat} {e : Env} {σ : Sto} {K : Env → Sto → Prop} (h : Zu cw lv [⟨some t, .alloc z, none, x1, x2⟩, ⟨none, .store m (.tmp t) (.tmp s), none, x3, x4⟩] e σ K) :
  ∃ e2 ob, K e2 (σ ++ [ob]) ∧ ∀ σ2 : Sto, σ2.length = σ.length → ∀ K2 : Env → Sto → Prop, K2 e2 (σ2 ++ [ob]) → Zu cw lv [⟨some t, .alloc z, none, x1, x2⟩, ⟨none, .store m (.tmp t) (.tmp s), none, x3, x4⟩] e σ2 K2 := by
 have st : ∀ (σ2 : Sto) (e : Env), ev e (.tmp t) = .ptr σ2.length z.length 0 → Zc lv (.store m (.tmp t) (.tmp s)) e (σ2 ++ [.cells false z]) =
   if z.length = z.length ∧ 0 + m ≤ z.length ∧ (ev e (.tmp s)).fits m ∧ ZbH lv σ2.length (ev e (.tmp s)).cells then some (.und, σ2 ++ [.cells false (Zl z 0 (ev e (.tmp s)).cells)]) else none := by
  intro σ2 e he
  simp only [Zc, he]
  rw [List.getElem?_append_right (Nat.le_refl _), Nat.sub_self]
  simp only [List.getElem?_cons_zero]
  rw [List.set_append_right _ _ (Nat.le_refl _), Nat.sub_self]
  rfl
 have al : ∀ (σ2 : Sto), Zc lv (.alloc z) e σ2 = some (.ptr σ2.length z.length 0, σ2 ++ [.cells false z]) := fun _ => rfl
 simp only [Zu, ZN, ZZ, al] at h
 by_cases ht : t < e.length
 ·have he : ev (put e (some t) (.ptr σ.length z.length 0)) (.tmp t) = .ptr σ.length z.length 0 := by simp [put, ev, ht]
  rw [st _ _ he] at h
  split at h
  case h_2 => exact h.elim
  rename_i v σ' hs
  split at hs
  case isFalse => simp at hs
  rename_i hc
  obtain ⟨rfl, rfl⟩ := Prod.mk.inj (Option.some.inj hs)
  refine ⟨_, _, h, fun σ2 hl K2 hK => ?_⟩
  simp only [Zu, ZN, ZZ, al]
  rw [hl]
  have st2 := st σ2 _ (by rw [hl]; exact he)
  rw [st2, hl, if_pos hc]
  exact hK
 ·have he : ev (put e (some t) (.ptr σ.length z.length 0)) (.tmp t) = .und := by simp [put, ev, ht]
  simp [Zc, he] at h

theorem Zjz (hmix : P.follows .mixedOrders = true) (hlp : Zl4 P) {T : FuncId → Option AFunc} (hTy : T Zag = none) {n : Nat} (hC : CallsOk P (ZD T n)) (hP : Z7 P (ZD T n)) : Zla P (ZD T (n + 1)) := by
 intro o args lv σ Q h F L w cargs r har hy hI hF hl
 simp only [ZD, hTy] at h
 obtain ⟨_, h⟩ := h
 simp only [Za5] at h
 split at h
 case h_2 => exact h.elim
 rename_i ps body e hσ
 obtain ⟨hlen, h⟩ := h
 obtain ⟨r', g, R, hL, hw, ⟨s1, s2⟩, hps, hb, henv, hset⟩ := hI.loop hF hl hσ
 have hr : r' = r := by
  cases hy with
  | yld y0 y1 y2 =>
   obtain ⟨q, e1, e2⟩ := y2 _ _ hL
   injection e1 with e1; injection e2 with e2; injection e2 with e2
   omega
 subst hr
 obtain ⟨aos, body', rfl, bas, b1, b2, b3, b4⟩ := (hlp _ _ _).1 hb
 simp only [Zf] at h
 refine ⟨R, hw, by rw [har.1, hlen, ← hps]; simp, fun rd => roundIn_of_wpIn trivial ?_⟩
 have hrs : r' < w.heap.size := (Array.getElem?_eq_some_iff.1 hw).1
 have henv0 : ZI F L (Zb6 e ps args) (ZcM R cargs) := Zmm henv har hps hlen
 -- the body, whatever the round's head has come to
 have hbody : ∀ {e1 : Env} {a1 : Act} {F1 : Frz} {L1 : Lay} {σ1 : Sto} {w1 : World}, Zf (ZD T n) n lv body' e1 (σ1.set o (.loop ps (.seq (.region false aos) body') e .busy)) (fun x _ σ' => Zak o x σ' Q) → ZI F1 L1 e1 a1.tmps → (∃ bs1, Zau bs1 w1 a1.defers) →
   Inv F1 L1 σ1 w1 → ZbN L1 σ1 → ZaH lv σ1 → Adv F L w F1 L1 w1 → σ1[o]? = some (.loop ps (.seq (.region false aos) body') e .ready) →
   ∃ w₂, (Instr.beginRound r').run P w1 = .ok () w₂ ∧ R.body.wpIn (Fr (some r')) 0 P (roundPost P r' fun e w' => ∃ v cv σ' F' L', e = .returned cv ∧ Q v σ' ∧ VRel F' L' v cv ∧ Inv F' L' σ' w' ∧ ZbN L' σ' ∧ ZaH lv σ' ∧ Adv F L w F' L' w') a1 w₂ := by
  intro e1 a1 F1 L1 σ1 w1 h he1 hd1 hI hF hl hA0 hσ
  obtain ⟨bs1, hd1⟩ := hd1
  obtain ⟨rr, g, R', hL', hw, ⟨s1, s2⟩, hps, hb, henv, hset⟩ := hI.loop hF hl hσ
  have hr2 : r' = rr := by
   have he := hA0.evo o
   rw [hL, hL'] at he
   rcases he with he | he | ⟨_, _, _, _, _, he⟩
   ·simp at he
   ·injection he with he; injection he with he; exact he.symm
   ·exact absurd rfl (he _)
  subst hr2
  obtain ⟨hI1, hF1, hl1, hA1⟩ := hset .busy { R' with state := .busy } rfl rfl rfl rfl rfl
  refine ⟨_, run_beginRound hw s1, ?_⟩
  have hinit : CRel bs1 F1 (Zaa L1 o (.live (.mp r') g)) lv e1 (σ1.set o (.loop ps (.seq (.region false aos) body') e .busy)) a1 (w1.putObj r' (.loop { R' with state := .busy })) :=
   ⟨he1.mono hA1.frz hA1.evo, hd1.keep (by rw [World.putObj_size]; exact Nat.le_refl _) fun D hD => (World.putObj_heap_other (by rintro rfl; rw [hw] at hD; simp at hD)).trans hD, hI1, hF1, hl1⟩
  replace hA1 := hA0.trans hA1
  refine wpIn_mono (Zen (rd := some r') hmix hlp (ZaX T n) (ZdB T n) hC hP _ b1 b2 b3 h hinit) fun x a' w' hp => ?_
  obtain ⟨x', e', σ2, F2, L2, hx, hq, hR2, hA2⟩ := hp
  unfold Zak at hq
  split at hq
  case h_2 => exact hq.elim
  rename_i ps2 body2 e2 hσ2
  obtain ⟨r2, g2, R2, hL2, hw2, _, _, _, _, hset2⟩ := hR2.inv.loop hR2.full hR2.lv hσ2
  have hr2 : r2 = r' := by
   have he := hA2.evo o
   rw [Zk, hL2] at he
   rcases he with he | he | ⟨_, _, _, _, _, he⟩
   ·simp at he
   ·injection he with he; injection he
   ·exact absurd rfl (he _)
  subst hr2
  have fin : ∀ (jump : Option Code) (st : LSt), Zjs st { R2 with state := if jump.isNone then .ready else .done, pending := jump } → Q (.bool (jump.isNone)) (σ2.set o (.loop ps2 body2 e2 st)) →
    ∃ v w3, (Instr.endRound r2 jump).run P w' = .ok v w3 ∧ ∃ v' cv σ' F' L', Ending.returned v = .returned cv ∧ Q v' σ' ∧ VRel F' L' v' cv ∧ Inv F' L' σ' w3 ∧ ZbN L' σ' ∧ ZaH lv σ' ∧ Adv F L w F' L' w3 := by
   intro jump st hst hQ
   obtain ⟨k1, k2, k3, k4⟩ := hset2 st { R2 with state := if jump.isNone then .ready else .done, pending := jump } hst rfl rfl rfl rfl
   exact ⟨_, _, run_endRound jump hw2, _, _, _, _, _, rfl, hQ, .bool, k1, k2, k3, (hA1.trans hA2).trans k4⟩
  cases x' with
  | normal =>
   cases x <;> simp only [Zax] at hx
   exact fin none .ready ⟨rfl, rfl⟩ hq
  | ret =>
   cases x <;> simp only [Zax] at hx
   exact fin (some .ret) (.done .ret) ⟨rfl, rfl⟩ hq
  | exit i =>
   cases x <;> simp only [Zax] at hx
   subst hx
   exact fin (some (.exit _)) (.done (.exit _)) ⟨rfl, rfl⟩ hq
 cases hasR : R.assign with
 | skip =>
  rw [hasR] at bas
  simp only [ZbV, Option.some.injEq] at bas
  have : aos = [] := by simpa using bas.symm
  subst this
  simp only [Zu] at h
  exact wpIn_skip (hbody h henv0 ⟨_, Zau.nil (Nat.le_refl _)⟩ hI hF hl (Adv.refl F L w) hσ)
 | region id ops dr =>
  rw [hasR] at bas
  cases dr with
  | true => simp [ZbV] at bas
  | false =>
   simp only [ZbV] at bas
   split at bas
   case h_2 => simp at bas
   rename_i aos2 hm
   split at bas
   case isFalse => simp at bas
   rename_i hall
   obtain rfl := Option.some.inj bas
   obtain ⟨e1, h1, hrun⟩ := ZdD (P := P) (rd := some r') aos _ hm (by rw [← Zep]; exact hall) h
   exact wpIn_region_list (hrun henv0 hI.gl fun a' q1 q2 => hbody h1 q1 ⟨w.heap.size, by rw [q2]; exact Zau.nil (Nat.le_refl _)⟩ hI hF hl (Adv.refl F L w) hσ)
 | seq A B =>
  rw [hasR] at bas
  cases A with
  | region idA ZeV drA =>
   cases B with
   | region idB opsB drB =>
    cases drA <;> cases drB <;> try (simp [ZbV] at bas; done)
    simp only [ZbV] at bas
    split at bas
    case h_2 => simp at bas
    rename_i a1 a2 hm1 hm2
    split at bas
    case isFalse => simp at bas
    rename_i hall
    simp only [Bool.and_eq_true] at hall
    obtain ⟨c1, c2, rfl, rfl, rfl⟩ := List.map_eq_append_iff.1 (Option.some.inj bas).symm
    obtain ⟨t, z, x1, x2, m, s, x3, x4, rfl⟩ := ZkB hall.2 b4
    rw [Zd6] at h
    obtain ⟨e1, h1, hrun⟩ := ZdD (P := P) (rd := some r') c1 _ hm1 (by rw [← Zep]; exact hall.1) h
    obtain ⟨e2, ob, hK, hmk⟩ := ZpV h1
    refine wpIn_seq (wpIn_region_list (hrun henv0 hI.gl fun a' q1 q2 => ?_))
    refine wpIn_region_list (ZdP hC hP _ _ hm2 (hmk σ (by simp) (fun e σ' => e = e2 ∧ σ' = σ ++ [ob]) ⟨rfl, rfl⟩) (bs := w.heap.size) ⟨q1, by rw [q2]; exact Zau.nil (Nat.le_refl _), hI, hF, hl⟩ fun e' σ' F' L' a'' w' hq hR' hA => ?_)
    obtain ⟨rfl, rfl⟩ := hq
    have ho : o < σ.length := (List.getElem?_eq_some_iff.1 hσ).1
    refine hbody ?_ hR'.env ⟨_, hR'.defers⟩ hR'.inv hR'.full hR'.lv hA (by rw [List.getElem?_append_left ho]; exact hσ)
    rw [List.set_append_left _ _ ho]
    exact hK
   | _ => simp [ZbV] at bas
  | _ => simp [ZbV] at bas
 | _ => rw [hasR] at bas; simp [ZbV] at bas

theorem ZjA (hmix : P.follows .mixedOrders = true) (hlp : Zl4 P) {T : FuncId → Option AFunc} (hTy : T Zag = none) (hT : ∀ f af, T f = some af → Zo P f af) : ∀ n, CallsOk P (ZD T n) ∧ Z7 P (ZD T n)
 | 0 => ⟨⟨fun h => by simp [ZD] at h, fun h => by simp [ZD] at h⟩, fun h => by simp [ZD] at h⟩
 | n + 1 => by
  obtain ⟨hC, hP⟩ := ZjA hmix hlp hTy hT n
  exact ⟨⟨fun h => Zjy hmix hlp hT hC hP h, Zjz hmix hlp hTy hC hP⟩, fun h => ZkA hmix hlp hT hC hP h⟩

end
end Go.Abs
