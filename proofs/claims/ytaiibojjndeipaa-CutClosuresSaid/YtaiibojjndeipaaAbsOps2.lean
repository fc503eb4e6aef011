/- Each operation of the model does what the abstract one says: the second part. -/
import Derived.Test.YtaiibojjndeipaaAbsOps1
set_option linter.all false
namespace Go.Abs
open Go
section
variable {P : Program} {F : Frz} {L : Lay} {σs : Sto} {w : World}

theorem idx_bound {x : AVal} {cx : Value} {i : Nat} (h : VRel F L x cx) (hn : natOf x = some i) : ∃ (k : IntKind) (z : Int), cx = .int k z ∧ 0 ≤ z ∧ z.toNat = i := by
  unfold natOf at hn
  split at hn
  · rename_i k z
    split at hn
    · cases h with
      | int => exact ⟨k, z, rfl, by assumption, Option.some.inj hn⟩
    · simp at hn
  · simp at hn

theorem q_load (hI : Inv F L σs w) {t : TypeId} {ag : Bool} {n : Nat} (hag : aggT P t = some ag) (hsz : szOf P t = some n) {x : AVal} {cx : Value} (hx : VRel F L x cx)
    {lv : List Nat} {σ : Sto} (hσ : ∀ i, i < σ.length → σs[i]? = σ[i]?) {e : Env} {y : Opd} (hy : ev e y = x) {v : AVal} {σ' : Sto} (hs : stepOp lv (.load ag n y) e σ = some (v, σ')) :
    σ' = σ ∧ QRes F L σs w (idsOf σ.length 0) (Sem.run P (do pure (Next.value (← Instr.loadAt t cx))) w) v := by
  simp only [stepOp, hy] at hs
  cases x <;> (try simp only [reduceCtorEq] at hs)
  case fptr cs =>
    simp only [Option.map_eq_some_iff, Prod.mk.injEq] at hs
    obtain ⟨u, h1, rfl, rfl⟩ := hs
    obtain ⟨c, h2, h3⟩ := loadFptr (P := P) hI hag hsz hx h1
    exact ⟨rfl, .still hI (run_v h2) h3 (idsOf_zero _)⟩
  case ptr o gen off =>
    split at hs
    · rename_i nl cs ho
      split at hs
      · rename_i hg
        simp only [Option.map_eq_some_iff, Prod.mk.injEq] at hs
        obtain ⟨u, h1, rfl, rfl⟩ := hs
        have ho' := (hσ o (List.getElem?_eq_some_iff.1 ho).1).trans ho
        obtain ⟨c, h2, h3⟩ := loadPtr (P := P) hI hag hsz hx ho' hg h1
        exact ⟨rfl, .still hI (run_v h2) h3 (idsOf_zero _)⟩
      · simp at hs
    · simp at hs

theorem q_nilck {x : AVal} {cx : Value} (hx : VRel F L x cx) {lv : List Nat} {σ : Sto} {e : Env} {y : Opd} (hy : ev e y = x) {v : AVal} {σ' : Sto}
    (hs : stepOp lv (.nilck y) e σ = some (v, σ')) : v = x ∧ ((∃ a, cx = .pointer (some a)) ∨ ∃ f a b, cx = .func (.func f) a b) := by
  simp only [stepOp, hy] at hs
  cases x <;> (try simp only [reduceCtorEq] at hs)
  case fptr cs =>
    simp only [Option.some.injEq, Prod.mk.injEq] at hs
    obtain ⟨rfl, rfl⟩ := hs
    cases hx; exact ⟨rfl, .inl ⟨_, rfl⟩⟩
  case ptr o gen off =>
    simp only [Option.some.injEq, Prod.mk.injEq] at hs
    obtain ⟨rfl, rfl⟩ := hs
    cases hx with
    | ptr h0 h1 h2 h => obtain ⟨a, rfl⟩ := h1; exact ⟨rfl, .inl ⟨_, rfl⟩⟩
  case clo f a b =>
    cases f <;> (try simp only [reduceCtorEq] at hs)
    simp only [Option.some.injEq, Prod.mk.injEq] at hs
    obtain ⟨rfl, rfl⟩ := hs
    cases hx; exact ⟨rfl, .inr ⟨_, _, _, rfl⟩⟩

theorem binA_sound {op : BinOp} {t : TypeId} {x y : AVal} {cx cy : Value} (hx : VRel F L x cx) (hy : VRel F L y cy) {v : AVal} (h : binA op x y = some v) :
    ∃ cv, (binOp op t cx cy).run P w = .ok cv w ∧ VRel F L v cv := by
  unfold binA at h
  split at h
  · rename_i k a yk b
    cases hx; cases hy
    split at h
    · split at h
      · simp at h
      · rename_i hb
        obtain rfl := Option.some.inj h
        exact ⟨_, by simp [binOp, Op.shift, hb], .int⟩
    · split at h
      · simp at h
      · rename_i hb
        obtain rfl := Option.some.inj h
        exact ⟨_, by simp [binOp, Op.shift, hb], .int⟩
    · rename_i n1 n2
      split at h
      · rename_i hk
        subst hk
        unfold binInt at h
        cases op <;> simp only [reduceCtorEq] at h n1 n2 <;> first
          | (exact absurd rfl n1)
          | (exact absurd rfl n2)
          | (obtain rfl := Option.some.inj h
             first | refine ⟨_, ?_, .int⟩ | refine ⟨_, ?_, .bool⟩
             first
             | (simp [binOp, Op.intArith]; done)
             | (simp [binOp, Op.intCmp]; done)
             | (simp only [binOp, ne_eq, not_true_eq_false, if_false]; rfl))
          | (split at h
             · simp at h
             · rename_i hb
               obtain rfl := Option.some.inj h
               refine ⟨_, ?_, .int⟩
               simp [binOp, Op.intDiv, hb])
      · simp at h
  · rename_i a b
    cases hx; cases hy
    unfold binStr at h
    cases op <;> simp only [reduceCtorEq] at h <;> first
      | (obtain rfl := Option.some.inj h
         exact ⟨_, by simp [binOp, Op.stringOp], .bool⟩)
      | (split at h
         · rename_i hb
           obtain rfl := Option.some.inj h
           refine ⟨.string (a ++ b), ?_, .str⟩
           simp only [binOp, Op.stringOp]
           rw [if_neg (by omega)]
           rfl
         · simp at h)
  · simp at h

theorem unA_sound {op : UnOp} {x : AVal} {cx : Value} (hx : VRel F L x cx) {v : AVal} (h : unA op x = some v) : ∃ cv, (Op.unary op cx).run P w = .ok cv w ∧ VRel F L v cv := by
  unfold unA at h
  split at h
  · cases hx; obtain rfl := Option.some.inj h; exact ⟨_, by simp [Op.unary, Op.intArith], .int⟩
  · cases hx; obtain rfl := Option.some.inj h; exact ⟨_, rfl, .int⟩
  · cases hx; obtain rfl := Option.some.inj h; exact ⟨_, by simp [Op.unary], .bool⟩
  · simp at h

def BndOk (ρ : Operand → Value) (lo : Option Operand) (l d : Nat) : Prop :=
  match lo with
  | none => l = d
  | some x => ∃ (k : IntKind) (z : Int), ρ x = .int k z ∧ 0 ≤ z ∧ z.toNat = l

theorem bndOk {e : Env} {ρ : Operand → Value} {lo : Option Operand} {lo' : Option Opd} (h : optA lo = some lo') (hr : ∀ x ∈ lo, Reads F L e ρ x) {l d : Nat} (hb : bound e lo' d = some l) :
    BndOk ρ lo l d := by
  cases lo with
  | none => simp [optA] at h; subst h; simp [bound] at hb; exact hb.symm
  | some x =>
    simp only [optA, Option.map_eq_some_iff] at h
    obtain ⟨y, hy, rfl⟩ := h
    exact idx_bound (hr x rfl y hy) hb

theorem optA_none {lo : Option Operand} {lo' : Option Opd} (h : optA lo = some lo') : lo = none ↔ lo' = none := by
  cases lo <;> simp [optA] at h
  · subst h; simp
  · obtain ⟨y, _, rfl⟩ := h; simp

theorem run_bound1 {k : IntKind} {z : Int} {y : Nat} {code : BoundsCode} (h0 : 0 ≤ z) (h1 : z.toNat ≤ y) : (Instr.sliceBound (.int k z) y code).run P w = .ok z.toNat w := by
  have : 0 ≤ z ∧ z ≤ y := ⟨h0, by omega⟩
  simp [Instr.sliceBound, asIntOf, this]

theorem run_bounds {ρ : Operand → Value} {lo hi : Option Operand} {isS : Bool} {len cap l h : Nat} (hl : BndOk ρ lo l 0) (hh : BndOk ρ hi h len) (h1 : l ≤ h) (h2 : h ≤ cap) :
    (Instr.sliceBounds isS len cap (lo.map ρ) (hi.map ρ) none).run P w = .ok (l, h, cap) w := by
  unfold Instr.sliceBounds
  cases hi with
  | none =>
    simp only [BndOk] at hh
    subst hh
    cases lo with
    | none => simp only [BndOk] at hl; subst hl; simp
    | some x =>
      obtain ⟨k, z, e, h0, rfl⟩ := hl
      simp [e, run_bound1 h0 h1]
  | some y =>
    obtain ⟨k', z', e', h0', rfl⟩ := hh
    cases lo with
    | none => simp only [BndOk] at hl; subst hl; simp [e', run_bound1 h0' h2]
    | some x =>
      obtain ⟨k, z, e, h0, rfl⟩ := hl
      simp [e, e', run_bound1 h0 h1, run_bound1 h0' h2]

theorem run_bounds3 {ρ : Operand → Value} {lo : Option Operand} {hi mx : Operand} {len cap l h m : Nat} (hl : BndOk ρ lo l 0) (hh : BndOk ρ (some hi) h len) (hm : BndOk ρ (some mx) m cap)
    (h1 : l ≤ h) (h2 : h ≤ m) (h3 : m ≤ cap) : (Instr.sliceBounds true len cap (lo.map ρ) (some (ρ hi)) (some (ρ mx))).run P w = .ok (l, h, m) w := by
  unfold Instr.sliceBounds
  obtain ⟨k', z', e', h0', rfl⟩ := hh
  obtain ⟨k2, z2, e2, h02, rfl⟩ := hm
  cases lo with
  | none => simp only [BndOk] at hl; subst hl; simp [e', e2, run_bound1 h0' h2, run_bound1 h02 h3]
  | some x =>
    obtain ⟨k, z, e, h0, rfl⟩ := hl
    simp [e, e', e2, run_bound1 h0 h1, run_bound1 h0' h2, run_bound1 h02 h3]

theorem run_sliceAt {t el : TypeId} {k : Nat} (hu : P.underlying t = some (.slice el)) (hk : szOf P el = some k) {a : Option Addr} {len cap l h m : Nat} {lo hi mx : Option Value}
    (hb : (Instr.sliceBounds true len cap lo hi mx).run P w = .ok (l, h, m) w) :
    (Instr.sliceAt t (.slice a len cap) lo hi mx).run P w = .ok (.slice (if m = l then a else a.map (·.add (l * k))) (h - l) (m - l)) w := by
  simp [Instr.sliceAt, run_underlying hu, Instr.slice, hb, run_sizeOf' hk]

theorem flatC_append (xs ys : List AVal) : flatC (xs ++ ys) = flatC xs ++ flatC ys := by simp [flatC]

theorem flatC_length {xs : List AVal} {k : Nat} (h : ∀ x ∈ xs, x.cells.length = k) : (flatC xs).length = xs.length * k := by
  induction xs with
  | nil => simp [flatC]
  | cons x xs ih =>
    have := ih fun y hy => h y (by simp [hy])
    simp only [flatC, List.flatMap_cons, List.length_append, List.length_cons] at this ⊢
    rw [this, h x (by simp), Nat.succ_mul]; omega

/-- a part of a frozen list is one -/
theorem VRel.sub {L' : Lay} {k : Nat} {xs : List AVal} {a : Addr} {len cap : Nat} (h : VRel F L (.list k xs) (.slice (some a) len cap)) {l hh m : Nat}
    (h1 : l ≤ hh) (h2 : hh ≤ xs.length) (hm : hh ≤ m) {a' : Addr} (ha : l < hh → a'.spot = none) (hb : l < hh → a'.block = a.block ∧ a'.off = a.off + l * k) :
    VRel F L' (.list k ((xs.take hh).drop l)) (.slice (some a') (hh - l) (m - l)) := by
  cases h with
  | list hs hc hk hf ho hv =>
    rename_i fv
    have hlen : ((xs.take hh).drop l).length = hh - l := by simp; omega
    have hsub : ∀ p c, (flatC ((xs.take hh).drop l))[p]? = some c → (flatC xs)[l * k + p]? = some c ∧ l < hh := by
      intro p c hp
      have e1 : xs = xs.take l ++ ((xs.take hh).drop l ++ xs.drop hh) := by
        conv => lhs; rw [← List.take_append_drop hh xs]
        rw [← List.append_assoc]
        congr 1
        conv => lhs; rw [← List.take_append_drop l (xs.take hh)]
        rw [List.take_take, Nat.min_eq_left h1]
      have hl : (flatC (xs.take l)).length = l * k := by
        rw [flatC_length fun x hx => hk x (List.mem_of_mem_take hx), List.length_take, Nat.min_eq_left (by omega)]
      have hp' := (List.getElem?_eq_some_iff.1 hp).1
      refine ⟨?_, ?_⟩
      · rw [e1, flatC_append, flatC_append, List.getElem?_append_right (by omega), hl, Nat.add_sub_cancel_left, List.getElem?_append_left hp']
        exact hp
      · rcases Nat.lt_or_ge l hh with h | h
        · exact h
        · have : (xs.take hh).drop l = [] := List.drop_eq_nil_of_le (by simp; omega)
          rw [this] at hp'; simp [flatC] at hp'
    have := VRel.list (F := F) (L := L') (xs := (xs.take hh).drop l) (a := a') (cap := m - l) (k := k) (fv := fun p => fv (l * k + p)) (fun hne => ha (by
        rcases Nat.lt_or_ge l hh with h | h
        · exact h
        · exact absurd (List.drop_eq_nil_of_le (by simp; omega)) hne)) (by omega)
      (fun x hx => hk x (List.mem_of_mem_take (List.mem_of_mem_drop hx)))
      (fun p c hp => by
        obtain ⟨h3, h4⟩ := hsub p c hp
        obtain ⟨h5, h6⟩ := hb h4
        have := hf _ c h3
        rw [h5, h6, Nat.add_assoc]; exact this)
      (fun p c hp => ho _ c (hsub p c hp).1) (fun p c hp => hv _ c (hsub p c hp).1)
    rwa [hlen] at this

theorem VRel.listInv {k : Nat} {xs : List AVal} {cx : Value} (h : VRel F L (.list k xs) cx) : ∃ a cap, cx = .slice (some a) xs.length cap ∧ (xs ≠ [] → a.spot = none) ∧ xs.length ≤ cap ∧ ∀ x ∈ xs, x.cells.length = k := by
  cases h with
  | list hs hc hk => exact ⟨_, _, rfl, hs, hc, hk⟩

theorem VRel.empty {k : Nat} {a : Addr} {cap : Nat} : VRel F L (.list k []) (.slice (some a) 0 cap) :=
  .list (fv := fun _ => undef) (fun h => absurd rfl h) (Nat.zero_le _) (fun x hx => by simp at hx) (fun p c h => by simp [flatC] at h) (fun p c h => by simp [flatC] at h) (fun p c h => by simp [flatC] at h)

theorem Inv.readRef (hI : Inv F L σs w) {o gen off len k : Nat} {cv : Value} (h : VRel F L (.ref o gen off len k) cv) {nl : Bool} {cs : List AVal}
    (hσ : σs[o]? = some (.cells nl cs)) (hg : cs.length = gen) : (nl = true ∧ cs = [] ∧ len = 0 ∧ off = 0 ∧ cv = .slice none 0 0 ∧ L o = .live .nil gen) ∨
      ∃ b top c elem cap, cv = .slice (some ⟨b, off, none⟩) len cap ∧ L o = .live (.blk b top) gen ∧ w.heap[b]? = some (.cells c elem (0, 0)) ∧ len ≤ cap ∧ off + cap * k ≤ top ∧ gen ≤ off + cap * k ∧
      off + len * k ≤ gen ∧ c.size = top ∧ cs.length ≤ top ∧ (∀ c ∈ cs, c.one = true) ∧ (nl = true → cs ≠ []) ∧ ∀ (p : Nat) (x : AVal), cs[p]? = some x → VRel F L x (c.getD p undef) := by
  cases h with
  | ref h0 h1 h2 h =>
    cases hL : L o with
    | un => exact absurd hL h0
    | dead => have := hI.dd o hL; rw [hσ] at this; simp at this
    | live loc g =>
      obtain ⟨ob, h3, h4⟩ := hI.obj o loc g hL
      rw [hσ] at h3
      obtain rfl := Option.some.inj h3
      obtain rfl : g = gen := h4.1.trans hg
      have hR := h loc hL
      cases loc with
      | mp r => exact hR.elim
      | nil =>
        obtain ⟨_, _, rfl, rfl⟩ := h4
        obtain ⟨rfl, rfl, rfl⟩ := hR
        exact .inl ⟨rfl, rfl, rfl, rfl, rfl, rfl⟩
      | blk b top =>
        obtain ⟨cap, rfl, h5, h6, h7, h8⟩ := hR
        obtain ⟨h9, h10, h11, c, elem, h12, h13, h14, h15⟩ := hI.cells hL hσ
        exact .inr ⟨b, top, c, elem, cap, rfl, rfl, h12, h5, h6, h7, h8, h13, h14, h10, h11, h15⟩

theorem q_slice (hI : Inv F L σs w) {t el : TypeId} {k : Nat} (hu : P.underlying t = some (.slice el)) (hk : szOf P el = some k) {x : AVal} {cx : Value} (hx : VRel F L x cx)
    {lv : List Nat} {σ : Sto} (hσ : ∀ i, i < σ.length → σs[i]? = σ[i]?) {e : Env} {y : Opd} (hy : ev e y = x) {ρ : Operand → Value}
    {lo hi mx : Option Operand} {lo' hi' mx' : Option Opd} (hlo : optA lo = some lo') (hhi : optA hi = some hi') (hmx : optA mx = some mx') (hmh : (mx'.isSome && hi'.isNone) = false)
    (rlo : ∀ x ∈ lo, Reads F L e ρ x) (rhi : ∀ x ∈ hi, Reads F L e ρ x) (rmx : ∀ x ∈ mx, Reads F L e ρ x)
    {v : AVal} {σ' : Sto} (hs : stepOp lv (.slice k y lo' hi' mx') e σ = some (v, σ')) :
    σ' = σ ∧ QRes F L σs w (idsOf σ.length 0) (Sem.run P (do pure (Next.value (← Instr.sliceAt t cx (lo.map ρ) (hi.map ρ) (mx.map ρ)))) w) v := by
  -- the bounds, as the model reckons them
  have bnds : ∀ {len cap l h m d1 d2 : Nat}, bound e lo' 0 = some l → bound e hi' d1 = some h → bound e mx' d2 = some m → d1 = len → l ≤ h → (mx' = none → h ≤ cap) → (mx'.isSome → h ≤ m ∧ m ≤ cap) →
      (Instr.sliceBounds true len cap (lo.map ρ) (hi.map ρ) (mx.map ρ)).run P w = .ok (l, h, if mx'.isSome then m else cap) w := by
    intro len cap l h m d1 d2 h1 h2 h3 hd h4 h5 h6
    subst hd
    have b1 := bndOk (F := F) (L := L) hlo rlo h1
    have b2 := bndOk (F := F) (L := L) hhi rhi h2
    cases hm : mx with
    | none =>
      obtain rfl : mx' = none := (optA_none hmx).1 hm
      simp only [Option.map_none, Option.isSome_none, Bool.false_eq_true, if_false]
      exact run_bounds b1 b2 h4 (h5 rfl)
    | some mm =>
      have hms : mx'.isSome = true := by
        cases mx' with
        | none => exact absurd ((optA_none hmx).2 rfl) (by simp [hm])
        | some _ => rfl
      have b3 := bndOk (F := F) (L := L) hmx rmx h3
      rw [hm] at b3
      obtain ⟨h7, h8⟩ := h6 hms
      rw [if_pos hms]
      cases hh : hi with
      | none =>
        obtain rfl : hi' = none := (optA_none hhi).1 hh
        simp [hms] at hmh
      | some hv =>
        rw [hh] at b2
        have b2' : BndOk ρ (some hv) h cap := b2
        exact run_bounds3 b1 b2' b3 h4 h7 h8
  simp only [stepOp, hy] at hs
  cases x <;> (try simp only [reduceCtorEq] at hs)
  case nils =>
    cases hx
    split at hs
    · rename_i hc
      obtain ⟨h1, h2, h3⟩ := hc
      simp only [Option.some.injEq, Prod.mk.injEq] at hs
      obtain ⟨rfl, rfl⟩ := hs
      have := bnds (len := 0) (cap := 0) h1 h2 h3 rfl (Nat.le_refl _) (fun _ => Nat.le_refl _) (fun _ => ⟨Nat.le_refl _, Nat.le_refl _⟩)
      refine ⟨rfl, .still hI (run_v (run_sliceAt hu hk this)) ?_ (idsOf_zero _)⟩
      simp; exact .nils
    · simp at hs
  case list k' xs =>
    obtain ⟨a, cap, rfl, hsp, hcap, hk0⟩ := hx.listInv
    split at hs
    · rename_i l h m h1 h2 h3
      split at hs
      · rename_i hc
        obtain ⟨c1, c2, c3, rfl⟩ := hc
        have := bnds (len := xs.length) (cap := cap) h1 h2 h3 rfl c1 (fun _ => by omega) (fun _ => ⟨c2, by omega⟩)
        split at hs
        · rename_i hz
          obtain ⟨rfl, hms⟩ := hz
          simp only [Option.some.injEq, Prod.mk.injEq] at hs
          obtain ⟨rfl, rfl⟩ := hs
          refine ⟨rfl, .still hI (run_v (run_sliceAt hu hk this)) ?_ (idsOf_zero _)⟩
          obtain rfl : h = 0 := by omega
          obtain rfl : l = 0 := by omega
          simp [hms]; exact .emp
        · simp only [Option.some.injEq, Prod.mk.injEq] at hs
          obtain ⟨rfl, rfl⟩ := hs
          refine ⟨rfl, .still hI (run_v (run_sliceAt hu hk this)) ?_ (idsOf_zero _)⟩
          generalize hM' : (if mx'.isSome then m else cap) = M
          have hM : h ≤ M := by rw [← hM']; split <;> omega
          have hne : l < h → a.spot = none := fun hlt => hsp (fun he => by subst he; simp at c2 c3; omega)
          split
          · exact hx.sub c1 (by omega) hM hne (fun h => by omega)
          · exact hx.sub c1 (by omega) hM (a' := a.add (l * k)) (fun hlt => by rw [Addr.add_plain (hne hlt)]) (fun hlt => by rw [Addr.add_plain (hne hlt)]; exact ⟨rfl, rfl⟩)
      · simp at hs
    · simp at hs
  case ref o gen off len k' =>
    split at hs
    · rename_i nl cs ho
      have ho' := (hσ o (List.getElem?_eq_some_iff.1 ho).1).trans ho
      split at hs
      · rename_i hc
        obtain ⟨hg, rfl, hk0⟩ := hc
        split at hs
        · rename_i hne
          simp only [Bool.and_eq_true, List.isEmpty_iff] at hne
          obtain ⟨rfl, rfl⟩ := hne
          rcases hI.readRef hx ho' hg with ⟨_, _, rfl, rfl, rfl, hL⟩ | ⟨b, top, c, elem, cap, _, _, _, _, _, _, _, _, _, _, hn, _⟩
          · split at hs
            · rename_i hb
              obtain ⟨h1, h2, h3⟩ := hb
              simp only [Option.some.injEq, Prod.mk.injEq] at hs
              obtain ⟨rfl, rfl⟩ := hs
              have := bnds (len := 0) (cap := 0) h1 h2 h3 rfl (Nat.le_refl _) (fun _ => Nat.le_refl _) (fun _ => ⟨Nat.le_refl _, Nat.le_refl _⟩)
              refine ⟨rfl, .still hI (run_v (run_sliceAt hu hk this)) ?_ (idsOf_zero _)⟩
              simp; exact .nils
            · simp at hs
          · exact absurd rfl (hn rfl)
        · rename_i hne
          rcases hI.readRef hx ho' hg with ⟨rfl, rfl, _⟩ | ⟨b, top, c, elem, cap, rfl, hL, hw, hlc, htop, hgc, hlen, hct, hcs, hone, hn, hrel⟩
          · simp at hne
          · have hcapk : ∀ h, off + h * k ≤ gen → h ≤ cap := by
              intro h hh
              have : h * k ≤ cap * k := by omega
              exact Nat.le_of_mul_le_mul_right this hk0
            split at hs
            · split at hs
              · rename_i l h h1 h2
                split at hs
                · rename_i hb
                  obtain ⟨c1, c2⟩ := hb
                  have := bnds (len := len) (cap := cap) (m := 0) (d2 := 0) h1 h2 rfl rfl c1 (fun _ => hcapk h c2) (fun h => by simp at h)
                  simp only [Option.isSome_none, Bool.false_eq_true, if_false] at this
                  split at hs
                  · rename_i hend
                    simp only [Option.some.injEq, Prod.mk.injEq] at hs
                    obtain ⟨rfl, rfl⟩ := hs
                    refine ⟨rfl, .still hI (run_v (run_sliceAt hu hk this)) ?_ (idsOf_zero _)⟩
                    have hh : h = l := by
                      have : h * k ≤ l * k := by omega
                      have := Nat.le_of_mul_le_mul_right this hk0
                      omega
                    subst hh
                    rw [Nat.sub_self]
                    split
                    · exact .empty
                    · exact .empty
                  · rename_i hend
                    simp only [Option.some.injEq, Prod.mk.injEq] at hs
                    obtain ⟨rfl, rfl⟩ := hs
                    refine ⟨rfl, .still hI (run_v (run_sliceAt hu hk this)) ?_ (idsOf_zero _)⟩
                    have hlk : l * k ≤ h * k := Nat.mul_le_mul_right k c1
                    have hne' : cap ≠ l := by
                      rintro rfl
                      omega
                    rw [if_neg hne']
                    have hsub1 : (h - l) * k = h * k - l * k := Nat.sub_mul h l k
                    have hsub2 : (cap - l) * k = cap * k - l * k := Nat.sub_mul cap l k
                    refine .ref (by rw [hL]; simp) ⟨_, _, _, rfl⟩ (fun loc g hl => ?_) (fun loc hl => ?_)
                    · rw [hL] at hl; injection hl with e1 e2; omega
                    · rw [hL] at hl; injection hl with e1 e2; subst e1
                      have := hcapk h c2
                      exact ⟨cap - l, by simp [Addr.add_plain], by omega, by omega, by omega, by omega⟩
                · simp at hs
              · simp at hs
            · rename_i mo
              split at hs
              · rename_i l h m h1 h2 h3
                split at hs
                · rename_i hb
                  obtain ⟨c1, c2, c3⟩ := hb
                  have := bnds (len := len) (cap := cap) h1 h2 h3 rfl c1 (fun h => by simp at h) (fun _ => ⟨c2, hcapk m c3⟩)
                  simp only [Option.isSome_some, if_true] at this
                  simp only [Option.some.injEq, Prod.mk.injEq] at hs
                  obtain ⟨rfl, rfl⟩ := hs
                  refine ⟨rfl, .still hI (run_v (run_sliceAt hu hk this)) ?_ (idsOf_zero _)⟩
                  split
                  · rename_i hm0
                    subst hm0
                    obtain rfl : h = 0 := by omega
                    obtain rfl : l = 0 := by omega
                    exact .emp
                  · exact .und
                · simp at hs
              · simp at hs
      · simp at hs
    · simp at hs

theorem run_opt {e : Env} {ρ : Operand → Value} {lo hi : Option Operand} {lo' hi' : Option Opd} (hlo : optA lo = some lo') (hhi : optA hi = some hi')
    (rlo : ∀ x ∈ lo, Reads F L e ρ x) (rhi : ∀ x ∈ hi, Reads F L e ρ x) {isS : Bool} {len cap l h : Nat} (h1 : bound e lo' 0 = some l) (h2 : bound e hi' len = some h) (h3 : l ≤ h) (h4 : h ≤ cap) :
    (Instr.sliceBounds isS len cap (lo.map ρ) (hi.map ρ) none).run P w = .ok (l, h, cap) w :=
  run_bounds (bndOk (F := F) (L := L) hlo rlo h1) (bndOk (F := F) (L := L) hhi rhi h2) h3 h4

theorem q_slstr (hI : Inv F L σs w) {t : TypeId} (hu : P.underlying t = some .string) {x : AVal} {cx : Value} (hx : VRel F L x cx)
    {lv : List Nat} {σ : Sto} {e : Env} {y : Opd} (hy : ev e y = x) {ρ : Operand → Value}
    {lo hi : Option Operand} {lo' hi' : Option Opd} (hlo : optA lo = some lo') (hhi : optA hi = some hi')
    (rlo : ∀ x ∈ lo, Reads F L e ρ x) (rhi : ∀ x ∈ hi, Reads F L e ρ x)
    {v : AVal} {σ' : Sto} (hs : stepOp lv (.slstr y lo' hi') e σ = some (v, σ')) :
    σ' = σ ∧ QRes F L σs w (idsOf σ.length 0) (Sem.run P (do pure (Next.value (← Instr.sliceAt t cx (lo.map ρ) (hi.map ρ) none))) w) v := by
  simp only [stepOp, hy] at hs
  cases x <;> (try simp only [reduceCtorEq] at hs)
  case str s =>
    cases hx
    split at hs
    · rename_i l h h1 h2
      split at hs
      · rename_i hc
        simp only [Option.some.injEq, Prod.mk.injEq] at hs
        obtain ⟨rfl, rfl⟩ := hs
        have := run_opt (P := P) (w := w) (isS := false) hlo hhi rlo rhi h1 h2 hc.1 hc.2
        exact ⟨rfl, .still (cv := .string (s.extract l h)) hI (run_v (by simp [Instr.sliceAt, run_underlying hu, Instr.slice, this])) .str (idsOf_zero _)⟩
      · simp at hs
    · simp at hs

theorem chunk_sub {k : Nat} (hk : 0 < k) {n : Nat} {cs : List AVal} (h : n * k ≤ cs.length) : chunk k n cs = chunk k n (cs.take (n * k)) := by
  induction n generalizing cs with
  | zero => rfl
  | succ n ih =>
    have h' : n * k + k ≤ cs.length := by rw [← Nat.succ_mul]; exact h
    rw [chunk, chunk, ih (by simp; omega), Nat.succ_mul]
    congr 1
    · split
      · cases cs with
        | nil => simp
        | cons c cs => rename_i e; subst e; simp
      · rw [List.take_take, Nat.min_eq_left (by omega)]
    · congr 1
      rw [List.drop_take]
      congr 1; omega

theorem q_slarr (hI : Inv F L σs w) {t el : TypeId} {n k : Nat} (hu : P.underlying t = some (.array n el)) (hk : szOf P el = some k) {x : AVal} {cx : Value} (hx : VRel F L x cx)
    {lv : List Nat} {σ : Sto} (hσ : ∀ i, i < σ.length → σs[i]? = σ[i]?) {e : Env} {y : Opd} (hy : ev e y = x) {ρ : Operand → Value}
    {lo hi : Option Operand} {lo' hi' : Option Opd} (hlo : optA lo = some lo') (hhi : optA hi = some hi')
    (rlo : ∀ x ∈ lo, Reads F L e ρ x) (rhi : ∀ x ∈ hi, Reads F L e ρ x)
    {v : AVal} {σ' : Sto} (hs : stepOp lv (.slarr n k y lo' hi') e σ = some (v, σ')) :
    σ' = σ ∧ QRes F L σs w (idsOf σ.length 0) (Sem.run P (do pure (Next.value (← Instr.sliceAt t cx (lo.map ρ) (hi.map ρ) none))) w) v := by
  have hrun : ∀ {a : Addr} {l h : Nat}, bound e lo' 0 = some l → bound e hi' n = some h → l ≤ h → h ≤ n →
      (Instr.sliceAt t (.pointer (some a)) (lo.map ρ) (hi.map ρ) none).run P w = .ok (.slice (some (if n = l then a else a.add (l * k))) (h - l) (n - l)) w := by
    intro a l h h1 h2 h3 h4
    have := run_opt (P := P) (w := w) (isS := false) hlo hhi rlo rhi h1 h2 h3 h4
    simp [Instr.sliceAt, run_underlying hu, Instr.sureAddr, this, run_sizeOf' hk]
  simp only [stepOp, hy] at hs
  split at hs
  · rename_i o gen off l h h1 h2
    split at hs
    · rename_i cs ho
      have ho' := (hσ o (List.getElem?_eq_some_iff.1 ho).1).trans ho
      split at hs
      · rename_i hc
        obtain ⟨hg, c1, c2, c3, hk0⟩ := hc
        obtain ⟨b, top, c, elem, rfl, hL, hw, hct, hcs, hone, hn, hrel⟩ := hI.readPtr hx ho' hg
        split at hs
        · rename_i hln
          simp only [Option.some.injEq, Prod.mk.injEq] at hs
          obtain ⟨rfl, rfl⟩ := hs
          refine ⟨rfl, .still hI (run_v (hrun h1 h2 c1 c2)) ?_ (idsOf_zero _)⟩
          subst hln
          obtain rfl : h = l := by omega
          simp; exact .empty
        · rename_i hln
          simp only [Option.some.injEq, Prod.mk.injEq] at hs
          obtain ⟨rfl, rfl⟩ := hs
          refine ⟨rfl, .still hI (run_v (hrun h1 h2 c1 c2)) ?_ (idsOf_zero _)⟩
          rw [if_neg (Ne.symm hln), Addr.add_plain rfl]
          have e1 : (n - l) * k = n * k - l * k := Nat.sub_mul n l k
          have e2 : (h - l) * k = h * k - l * k := Nat.sub_mul h l k
          have e3 : l * k ≤ n * k := Nat.mul_le_mul_right k (by omega)
          have e4 : h * k ≤ n * k := Nat.mul_le_mul_right k c2
          refine .ref (by rw [hL]; simp) ⟨_, _, _, rfl⟩ (fun loc g hl => ?_) (fun loc hl => ?_)
          · rw [hL] at hl; injection hl with e1 e2; omega
          · rw [hL] at hl; injection hl with e5 e6; subst e5
            exact ⟨n - l, rfl, by omega, by omega, by omega, by omega⟩
      · simp at hs
    · simp at hs
  · rename_i cs l h h1 h2
    split at hs
    · rename_i hc
      obtain ⟨c1, c2, c3, hk0⟩ := hc
      simp only [Option.some.injEq, Prod.mk.injEq] at hs
      obtain ⟨rfl, rfl⟩ := hs
      cases hx with
      | fptr hsp hf ho hr =>
        rename_i a fv
        refine ⟨rfl, .still hI (run_v (hrun h1 h2 c1 c2)) ?_ (idsOf_zero _)⟩
        have e4 : h * k ≤ n * k := Nat.mul_le_mul_right k c2
        have e2 : (h - l) * k = h * k - l * k := Nat.sub_mul h l k
        have e5 : l * k ≤ h * k := Nat.mul_le_mul_right k c1
        have hl' : (h - l) * k ≤ (cs.drop (l * k)).length := by rw [List.length_drop]; omega
        have hone : ∀ c ∈ cs, c.one = true := fun c hc => by obtain ⟨i, hi⟩ := List.getElem?_of_mem hc; exact ho i c hi
        have hone' : ∀ c ∈ (cs.drop (l * k)).take ((h - l) * k), c.one = true := fun c hc => hone c (List.mem_of_mem_drop (List.mem_of_mem_take hc))
        have hll : ((cs.drop (l * k)).take ((h - l) * k)).length = (h - l) * k := by rw [List.length_take]; omega
        rw [chunk_sub hk0 hl']
        have hfl := chunk_flat k hk0 (h - l) _ hll hone'
        have hget : ∀ p c, (flatC (chunk k (h - l) ((cs.drop (l * k)).take ((h - l) * k))))[p]? = some c → cs[l * k + p]? = some c ∧ l < h := by
          intro p c hp
          rw [hfl, List.getElem?_take] at hp
          split at hp
          · rename_i hlt
            rw [List.getElem?_drop] at hp
            refine ⟨hp, ?_⟩
            rcases Nat.lt_or_ge l h with h' | h'
            · exact h'
            · rw [Nat.sub_eq_zero_of_le h'] at hlt; simp at hlt
          · simp at hp
        have := VRel.list (F := F) (L := L) (xs := chunk k (h - l) ((cs.drop (l * k)).take ((h - l) * k))) (a := if n = l then a else a.add (l * k)) (cap := n - l) (k := k) (fv := fun p => fv (l * k + p))
          (fun _ => by split; · exact hsp
                       · rw [Addr.add_plain hsp]) (by rw [chunk_length]; omega) (chunk_cells k hk0 _ _ hll hone')
          (fun p c hp => by
            obtain ⟨h3, h4⟩ := hget p c hp
            rw [if_neg (by omega), Addr.add_plain hsp]
            have := hf _ c h3
            simp only [Nat.add_assoc]; exact this)
          (fun p c hp => ho _ c (hget p c hp).1) (fun p c hp => hr _ c (hget p c hp).1)
        rwa [chunk_length] at this
    · simp at hs
  · simp at hs

theorem VRel.fptrDrop {cs : List AVal} {a : Addr} (h : VRel F L (.fptr cs) (.pointer (some a))) (n : Nat) : VRel F L (.fptr (cs.drop n)) (.pointer (some (a.add n))) := by
  cases h with
  | fptr hs hf ho hr =>
    rename_i fv
    rw [Addr.add_plain hs]
    exact .fptr (fv := fun p => fv (n + p)) rfl (fun p c hp => by rw [List.getElem?_drop] at hp; have := hf _ c hp; simp only [Nat.add_assoc]; exact this)
      (fun p c hp => by rw [List.getElem?_drop] at hp; exact ho _ c hp) (fun p c hp => by rw [List.getElem?_drop] at hp; exact hr _ c hp)

theorem VRel.ptrAdd {o gen off : Nat} {cv : Value} (h : VRel F L (.ptr o gen off) cv) (n : Nat) : ∃ a, cv = .pointer (some a) ∧ VRel F L (.ptr o gen (off + n)) (.pointer (some (a.add n))) := by
  cases h with
  | ptr h0 h1 h2 h =>
    obtain ⟨a, rfl⟩ := h1
    refine ⟨a, rfl, .ptr h0 ⟨_, rfl⟩ h2 fun loc hl => ?_⟩
    obtain ⟨b, top, hb, e⟩ := h loc hl
    injection e with e; injection e with e; subst e
    exact ⟨b, top, hb, by rw [Addr.add_plain rfl]⟩

theorem q_faddr (hI : Inv F L σs w) {t : TypeId} {fields : Array Field} (hu : P.underlying t = some (.struct fields)) {i : Nat} {fd : Field} (hfd : fields[i]? = some fd) {n : Nat} (hn : szOf P fd.type = some n)
    (hn0 : n ≠ 0) {x : AVal} {cx : Value} (hx : VRel F L x cx) {lv : List Nat} {σ : Sto} {e : Env} {y : Opd} (hy : ev e y = x) {v : AVal} {σ' : Sto} (hs : stepOp lv (.faddr fd.offset y) e σ = some (v, σ')) :
    σ' = σ ∧ QRes F L σs w (idsOf σ.length 0) (Sem.run P (do pure (Next.value (← Instr.fieldAt t cx i))) w) v := by
  have hrun : ∀ (a : Addr), (Instr.fieldAt t (.pointer (some a)) i).run P w = .ok (.pointer (some (a.add fd.offset))) w := by
    intro a
    simp [Instr.fieldAt, run_underlying hu, hfd, Instr.sureAddr, fieldPlace, run_sizeOf' hn, hn0]
  simp only [stepOp, hy] at hs
  cases x <;> (try simp only [reduceCtorEq] at hs)
  case ptr o gen a =>
    simp only [Option.some.injEq, Prod.mk.injEq] at hs
    obtain ⟨rfl, rfl⟩ := hs
    obtain ⟨ad, rfl, h⟩ := hx.ptrAdd fd.offset
    exact ⟨rfl, .still hI (run_v (hrun ad)) h (idsOf_zero _)⟩
  case fptr cs =>
    simp only [Option.some.injEq, Prod.mk.injEq] at hs
    obtain ⟨rfl, rfl⟩ := hs
    obtain ⟨ad, rfl⟩ : ∃ a, cx = .pointer (some a) := by cases hx; exact ⟨_, rfl⟩
    exact ⟨rfl, .still hI (run_v (hrun ad)) (hx.fptrDrop _) (idsOf_zero _)⟩

/-- a part of an aggregate -/
theorem run_part {t : TypeId} {ag : Bool} {n : Nat} (hag : aggT P t = some ag) (hsz : szOf P t = some n) {cs : List AVal} {ca : Array Value} (h : CellsRel F L cs ca.toList) {off : Nat}
    (hle : off + n ≤ cs.length) {v : AVal} (hv : loadA ag n (cs.drop off) = some v) : ∃ cv, (part t ca off).run P w = .ok cv w ∧ VRel F L v cv := by
  have hl : ca.size = cs.length := by have := h.1; simpa using this
  unfold loadA at hv
  unfold part
  rw [Sem.run_bind, run_isAgg hag]
  cases ag with
  | true =>
    simp only [if_true] at hv
    split at hv
    · obtain rfl := Option.some.inj hv
      refine ⟨.agg (ca.extract off (off + n)), by simp [run_sizeOf' hsz], ?_⟩
      have := CellsRel.agg ((h.drop off).take n)
      have e : ca.extract off (off + n) = ((ca.toList.drop off).take n).toArray := by
        apply Array.ext'
        simp [List.take_drop]
      rw [e]
      exact this
    · simp at hv
  | false =>
    simp only [Bool.false_eq_true, if_false] at hv
    rw [List.head?_eq_getElem?, List.getElem?_drop] at hv
    have hlt := (List.getElem?_eq_some_iff.1 hv).1
    simp only [Nat.add_zero] at hv hlt
    refine ⟨ca.getD off undef, ?_, getD_of_rel h hv⟩
    simp [Array.getD, hl, hlt]

end
end Go.Abs
