/- The operations together: those that write. -/
import Derived.Test.YtaiibojjndeipaaAbsStep
set_option linter.all false
namespace Go.Abs
open Go
section
variable {P : Program} {F : Frz} {L : Lay} {σ : Sto} {w : World}

theorem Inv.unFresh (hI : Inv F L σ w) {i : Nat} (h : σ.length ≤ i) : L i = .un := by
  cases hL : L i with
  | un => rfl
  | dead => have := hI.lt i (by rw [hL]; simp); omega
  | live _ _ => have := hI.lt i (by rw [hL]; simp); omega

theorem w_appendz (hI : Inv F L σ w) (hF : Full L σ) {ts : Array TypeId} {t0 t1 ty el : TypeId} {i : TypeInfo} (h0 : ts[0]? = some t0) (h1 : ts[1]? = some t1) (hu0 : P.underlying t0 = some (.slice el)) {q : IntKind}
    (hu1 : P.underlying t1 = some (.int q)) (hi : P.info? el = some i) (hb : 0 < i.bytes) {z : List AVal} (hz : zeroC P el = some z) (hzl : z.length = i.size) {s x : AVal} {cs cx : Value} (hs' : VRel F L s cs)
    (hx : VRel F L x cx) {lv : List Nat} {e : Env} {os ox : Opd} (es : ev e os = s) (ex : ev e ox = x) {u : AVal} {σ' : Sto} (hs : stepOp lv (.appendz i.size i.bytes z os ox) e σ = some (u, σ')) :
    WRes F L σ' w (Sem.run P (do pure (Next.value (← Builtin.append_ ts ty #[cs, cx]))) w) u := by
  simp only [stepOp, es, ex] at hs
  split at hs
  case h_2 => simp at hs
  rename_i n
  cases hs'; cases hx
  split at hs
  case isFalse => simp at hs
  rename_i hc
  obtain ⟨hn0, hby, hk⟩ := hc
  have h3 : maxBytes = 140737488355328 := rfl
  have hmax : IntKind.i64.max = 9223372036854775807 := rfl
  have hnle : n.toNat ≤ maxBytes := Nat.le_trans (Nat.le_mul_of_pos_right _ hb) hby
  have hwr : IntKind.i64.wrap n = n := wrap_small hn0 (by rw [hmax]; omega)
  have hsz : szOf P el = some i.size := by simp [szOf, hi]
  have hpan : ¬ (n * (i.bytes : Int) > 2 ^ 48) := by
    have e1 : (n.toNat : Int) = n := Int.toNat_of_nonneg hn0
    have h4 : ((n.toNat * i.bytes : Nat) : Int) ≤ ((maxBytes : Nat) : Int) := by exact_mod_cast hby
    rw [Int.natCast_mul, e1, h3] at h4
    omega
  split at hs
  · rename_i hn
    subst hn
    obtain ⟨rfl, rfl⟩ := Prod.mk.inj (Option.some.inj hs)
    refine ⟨w, L, .inl ⟨.slice none 0 0, run_v ?_, .nils⟩, hI, Adv.refl F L w, hF⟩
    simp only [Builtin.append_, h0, List.getElem?_toArray, List.getElem?_cons_zero, List.getElem?_cons_succ, Sem.run_bind, h1, run_underlying hu0, run_underlying hu1, Result.andThen_ok, run_sizeOf' hsz, Sem.run_pure,
      if_true, asInt, asIntOf, hwr]
    rw [if_neg (by omega)]
    simp only [Sem.run_bind, run_info hi, Result.andThen_ok]
    rw [if_neg hpan]
    simp
  · rename_i hn
    obtain ⟨rfl, rfl⟩ := Prod.mk.inj (Option.some.inj hs)
    let w1 : World := { w with drawn := w.drawn + 1 }
    obtain ⟨nc, hncv⟩ : ∃ nc, (Question.appendCap n.toNat 0 el).cut (w.tape w.drawn (.appendCap n.toNat 0 el)) = nc := ⟨_, rfl⟩
    have hnc' : n.toNat ≤ nc := by rw [← hncv]; simp only [Question.cut]; omega
    obtain ⟨zv, g1, g2, g3⟩ := zeroC_run hz w1 F L
    have hzs : zv.cells.size = i.size := by have := g2.1; simp at this; omega
    have hcr : CellsRel F L (List.replicate n.toNat z).flatten (Builtin.zeroCells zv.cells n.toNat).toList := by
      have : (Builtin.zeroCells zv.cells n.toNat).toList = (List.replicate n.toNat zv.cells.toList).flatten := range_mod zv.cells n.toNat
      rw [this]; exact g2.replicate _
    have hlen : (List.replicate n.toNat z).flatten.length = n.toNat * i.size := by simp [hzl]
    have hn' : n.toNat ≠ 0 := by omega
    have hI' := hI.extend (σ' := σ ++ [.cells false (List.replicate n.toNat z).flatten]) (fun i hi => List.getElem?_append_left hi) (by simp)
    have hrun : (Builtin.append_ ts ty #[.slice none 0 0, .int .i64 n]).run P w = .ok (.slice (some ⟨w.heap.size, 0, none⟩) n.toNat nc)
        (w1.alloc (.cells ((Builtin.zeroCells zv.cells n.toNat) ++ (Builtin.zeroCells zv.cells (nc - n.toNat))) el)) := by
      simp only [Builtin.append_, h0, List.getElem?_toArray, List.getElem?_cons_zero, List.getElem?_cons_succ, Sem.run_bind, h1, run_underlying hu0, run_underlying hu1, Result.andThen_ok, run_sizeOf' hsz, Sem.run_pure,
        if_true, asInt, asIntOf, hwr]
      rw [if_neg (by omega)]
      simp only [Sem.run_bind, run_info hi, Result.andThen_ok]
      rw [if_neg hpan]
      simp only [Sem.run_pure, Sem.run_bind, Result.andThen_ok, Nat.zero_add]
      rw [if_neg (by omega)]
      simp only [Sem.run_bind, run_info hi, Result.andThen_ok]
      rw [if_neg (by omega)]
      simp only [Sem.run_bind, run_info hi, Result.andThen_ok]
      have hnx : ¬ (Builtin.nextslicecap n.toNat 0 * i.bytes > 2 ^ 48) := by
        have : Builtin.nextslicecap n.toNat 0 = n.toNat := by unfold Builtin.nextslicecap; rw [if_pos (by omega)]
        rw [this]; omega
      rw [if_neg hnx]
      have hne : ¬ (n.toNat * i.size = 0) := by
        intro h
        rcases Nat.mul_eq_zero.1 h with h | h <;> omega
      have g1' : (zeroValue el).run P { w with drawn := w.drawn + 1 } = .ok zv w1 := g1
      simp only [Sem.run_bind, run_choose, Question.forced, Bool.false_eq_true, if_false, Result.andThen_ok, hncv, run_info hi, run_askRoom, Builtin.firstCells, Sem.run_pure, Bool.not_true, hne, g1', g1, newRow, run_newObj]
      simp [World.alloc, w1]
    have := freshRef (cs := (List.replicate n.toNat z).flatten) hI' (hI.unFresh (Nat.le_refl _)) (by simp) (fun c hc => by
        simp only [List.mem_flatten, List.mem_replicate] at hc
        obtain ⟨l, ⟨_, rfl⟩, hc⟩ := hc
        exact g3 c hc) (w' := w1.alloc (.cells ((Builtin.zeroCells zv.cells n.toNat) ++ (Builtin.zeroCells zv.cells (nc - n.toNat))) el)) (elem := el)
      (c := (Builtin.zeroCells zv.cells n.toNat) ++ (Builtin.zeroCells zv.cells (nc - n.toNat))) rfl rfl rfl rfl (len := n.toNat) (cap := nc) (k := i.size) hnc'
      (by
        have e1 : (nc - n.toNat) * i.size = nc * i.size - n.toNat * i.size := Nat.sub_mul _ _ _
        have e2 : n.toNat * i.size ≤ nc * i.size := Nat.mul_le_mul_right _ hnc'
        simp only [Builtin.zeroCells, hzs, Array.size_append, Array.size_map, Array.size_range]
        omega) (by rw [hlen]; exact Nat.mul_le_mul_right _ hnc') (by omega)
      (fun p x hp => by
        have hlt := (List.getElem?_eq_some_iff.1 hp).1
        have := getD_of_rel hcr hp
        rw [Array.getD_eq_getD_getElem?, Array.getElem?_append_left (by have := hcr.1; simp only [Array.length_toList] at this; omega), ← Array.getD_eq_getD_getElem?]
        exact this) (run_v hrun)
    rw [hlen] at this
    exact this.toW (new := [.cells false (List.replicate n.toNat z).flatten]) hF

/-- every operation but a call -/
theorem w_step {o : Oper} {a : AOp} (hc : cOp P o = some a) (hnc : a.isCall = false) {lv : List Nat} {e : Env} {v : AVal} {σ' : Sto} (hs : stepOp lv a e σ = some (v, σ')) (hI : Inv F L σ w) (hF : Full L σ)
    {ρ : Operand → Value} (hρ : ∀ v, ρ (.const v) = v) (hr : ∀ x ∈ o.op.operands.toList, Reads F L e ρ x) : WRes F L σ' w ((execOp ρ o).run P w) v := by
  by_cases hq : a.isQ = true
  · obtain ⟨new, rfl, h⟩ := q_step hc hq hs
    have hI' := hI.extend (σ' := σ ++ new) (fun i hi => List.getElem?_append_left hi) (by simp)
    exact (h hI' ⟨fun i hi => List.getElem?_append_left hi, fun i ob hob => ⟨by rw [List.getElem?_append_right (by omega), Nat.add_sub_cancel_left]; exact hob, hI.unFresh (by omega)⟩⟩ hρ hr).toW hF
  · cases hop : o.op <;> simp only [cOp, hop, reduceCtorEq] at hc
    case store t x y =>
      split at hc
      case h_2 => simp at hc
      rename_i n ax ay h1 h2 h3
      obtain rfl := Option.some.inj hc
      have := w_store (P := P) hI hF h1 (hr x (by simp [hop, Op.operands]) ax h2) (hr y (by simp [hop, Op.operands]) ay h3) rfl rfl hs
      simpa only [execOp, hop] using this
    case mapUpdate t m k x =>
      split at hc
      case h_2 => simp at hc
      rename_i kt el am ak ax hu hm hk hx
      simp only [Option.map_eq_some_iff] at hc
      obtain ⟨sh, hsh, rfl⟩ := hc
      have := w_mapup (P := P) hI hF hu hsh (hr m (by simp [hop, Op.operands]) am hm) (hr k (by simp [hop, Op.operands]) ak hk) (hr x (by simp [hop, Op.operands]) ax hx) rfl rfl rfl hs
      simpa only [execOp, hop] using this
    case insert t m k x =>
      split at hc
      case h_2 => simp at hc
      rename_i kt el am ak ax hu hm hk hx
      simp only [Option.map_eq_some_iff] at hc
      obtain ⟨sh, hsh, rfl⟩ := hc
      have := w_mapup (P := P) hI hF hu hsh (hr m (by simp [hop, Op.operands]) am hm) (hr k (by simp [hop, Op.operands]) ak hk) (hr x (by simp [hop, Op.operands]) ax hx) rfl rfl rfl hs
      simpa only [execOp, hop] using this
    case call c =>
      split at hc
      · rename_i args b hargs hb
        have hexec : ∀ (ρ : Operand → Value), execOp ρ o = builtin b c.argTypes o.type (c.args.map fun | .const _ => true | _ => false) (c.args.map ρ) := by
          intro ρ
          simp only [execOp, hop, resolve, hb]
          rfl
        unfold cBuiltin at hc
        split at hc
        · split at hc <;> first | (obtain rfl := Option.some.inj hc; exact absurd rfl hq) | simp at hc
        · split at hc <;> first | (obtain rfl := Option.some.inj hc; exact absurd rfl hq) | simp at hc
        · rename_i s x
          obtain ⟨as, ax, hax, h1, h2⟩ := opdsA2 hargs
          split at hc
          · rename_i el d1 heq0 heq1
            simp only [Option.bind_eq_some_iff] at heq0 heq1
            obtain ⟨t0, ht0, hu0⟩ := heq0
            obtain ⟨t1, ht1, hu1⟩ := heq1
            split at hc
            case h_2 => simp at hc
            rename_i i z hi hz
            split at hc
            case isFalse => simp at hc
            rename_i hbz
            obtain rfl := Option.some.inj hc
            have := w_append (P := P) (ty := o.type) hI hF ht0 ht1 hu0 hu1 (fun k => by simp) hi hbz.2 hz hbz.1 (hr as (by simp [hop, Op.operands, Call.operands, hb, hax]) s h1) (hr ax (by simp [hop, Op.operands, Call.operands, hb, hax]) x h2) rfl rfl hs
            rw [hexec, hax]
            simpa only [builtin, List.map_toArray, List.map_cons, List.map_nil] using this
          · rename_i el q heq0 heq1
            simp only [Option.bind_eq_some_iff] at heq0 heq1
            obtain ⟨t0, ht0, hu0⟩ := heq0
            obtain ⟨t1, ht1, hu1⟩ := heq1
            split at hc
            case h_2 => simp at hc
            rename_i i z hi hz
            split at hc
            case isFalse => simp at hc
            rename_i hbz
            obtain rfl := Option.some.inj hc
            have := w_appendz (P := P) (ty := o.type) hI hF ht0 ht1 hu0 hu1 hi hbz.2 hz hbz.1 (hr as (by simp [hop, Op.operands, Call.operands, hb, hax]) s h1) (hr ax (by simp [hop, Op.operands, Call.operands, hb, hax]) x h2) rfl rfl hs
            rw [hexec, hax]
            simpa only [builtin, List.map_toArray, List.map_cons, List.map_nil] using this
          · simp at hc
        · rename_i d s
          obtain ⟨ad, as, hax, h1, h2⟩ := opdsA2 hargs
          split at hc
          case h_2 => simp at hc
          rename_i heq
          simp only [Option.bind_eq_some_iff] at heq
          obtain ⟨t0, ht, hu⟩ := heq
          simp only [Option.map_eq_some_iff] at hc
          obtain ⟨k, hk, rfl⟩ := hc
          have := w_copy (P := P) (ty := o.type) hI hF ht hu hk (hr ad (by simp [hop, Op.operands, Call.operands, hb, hax]) d h1) (hr as (by simp [hop, Op.operands, Call.operands, hb, hax]) s h2) rfl rfl hs
          rw [hexec, hax]
          simpa only [builtin, List.map_toArray, List.map_cons, List.map_nil] using this
        · rename_i x
          obtain ⟨ax, hax, h1⟩ := opdsA1 hargs
          split at hc
          case h_2 => simp at hc
          rename_i heq
          simp only [Option.bind_eq_some_iff] at heq
          obtain ⟨t0, ht, hu⟩ := heq
          simp only [Option.map_eq_some_iff] at hc
          obtain ⟨z, hz, rfl⟩ := hc
          have := w_clear (P := P) (ty := o.type) hI hF ht hu hz (hr ax (by simp [hop, Op.operands, Call.operands, hb, hax]) x h1) rfl hs
          rw [hexec, hax]
          simpa only [builtin, List.map_toArray, List.map_cons, List.map_nil] using this
        · rename_i m k
          obtain ⟨am, ak, hax, h1, h2⟩ := opdsA2 hargs
          split at hc
          case h_2 => simp at hc
          rename_i heq
          simp only [Option.bind_eq_some_iff] at heq
          obtain ⟨t0, ht, hu⟩ := heq
          simp only [Option.map_eq_some_iff] at hc
          obtain ⟨sh, hsh, rfl⟩ := hc
          have := w_delete (P := P) (ty := o.type) hI hF ht hu hsh (hr am (by simp [hop, Op.operands, Call.operands, hb, hax]) m h1) (hr ak (by simp [hop, Op.operands, Call.operands, hb, hax]) k h2) rfl rfl hs
          rw [hexec, hax]
          simpa only [builtin, List.map_toArray, List.map_cons, List.map_nil] using this
        · obtain rfl := Option.some.inj hc; exact absurd rfl hq
        · obtain rfl := Option.some.inj hc; exact absurd rfl hq
        · simp at hc
      · obtain rfl := Option.some.inj hc; simp [AOp.isCall] at hnc
      · simp only [Option.map_eq_some_iff] at hc; obtain ⟨_, _, rfl⟩ := hc; simp [AOp.isCall] at hnc
      · simp at hc
    case makeMap t r =>
      cases r with
      | some _ => simp at hc
      | none => obtain rfl := Option.some.inj hc; exact absurd rfl hq
    all_goals
      exfalso
      apply hq
      try unfold cEq at hc
      repeat' split at hc
      all_goals first
        | (obtain rfl := Option.some.inj hc; rfl)
        | (simp only [Option.map_eq_some_iff] at hc; obtain ⟨_, _, rfl⟩ := hc; rfl)
        | (simp at hc; done)

end
end Go.Abs
