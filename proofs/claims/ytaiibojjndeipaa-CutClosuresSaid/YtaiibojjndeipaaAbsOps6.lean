/- Each operation of the model does what the abstract one says: the rest. -/
import Derived.Test.YtaiibojjndeipaaAbsOps5
set_option linter.all false
namespace Go.Abs
open Go
section
variable {P : Program} {F : Frz} {L : Lay} {σ σs : Sto} {w : World}

theorem q_lookup (hI : Inv F L σs w) {t kt el : TypeId} (hu : P.underlying t = some (.map kt el)) {sh : Shape} (hsh : shapeOf P 20 kt = some sh) {z : AVal} (hz : zeroV P el = some z) {ok : Bool}
    {m i : AVal} {cm ci : Value} (hm : VRel F L m cm) (hi : VRel F L i ci) {lv : List Nat} {σ : Sto} (hσ : ∀ i, i < σ.length → σs[i]? = σ[i]?) {e : Env} {om oi : Opd} (em : ev e om = m) (ei : ev e oi = i)
    {v : AVal} {σ' : Sto} (hs : stepOp lv (.lookup sh z ok om oi) e σ = some (v, σ')) : σ' = σ ∧ QRes F L σs w (idsOf σ.length 0) (Sem.run P (do pure (Next.value (← Instr.lookup t cm ci ok))) w) v := by
  obtain ⟨zv, hzr, hzv⟩ : ∃ zv, (zeroValue el).run P w = .ok zv w ∧ VRel F L z zv := by
    unfold zeroV at hz
    split at hz
    · rename_i inf hinf
      split at hz
      · rename_i zz hzz
        exact ⟨zz, by simp [zeroValue, run_info hinf, hzz], valA_rel hz⟩
      · simp at hz
    · simp at hz
  have key : ∀ {ks vs : List AVal} {es : Array MapEntry}, EntRel F L ks vs es.toList → eqA sh i i = some true → ∀ {r : Option Nat}, findA sh i ks 0 = some r →
      ((cm = .map none ∧ es = #[]) ∨ ∃ rr cl, cm = .map (some rr) ∧ w.heap[rr]? = some (.map es cl)) →
      ∃ val, (Instr.lookup t cm ci ok).run P w = .ok (if ok then .tuple #[val, .bool r.isSome] else val) w ∧ (match r with | none => val = zv | some j => ∃ me, es.toList[j]? = some me ∧ val = me.val) := by
    intro ks vs es hent hkk r hf hes
    obtain ⟨out, h1, h2⟩ := find_sound (P := P) (w := w) hsh hi hent.1 hent.2.2.1 hf hkk
    have hck := checkKey_ok (P := P) (w := w) 20 hsh (d := 10000) (by omega) (emp := es.isEmpty) hi hkk
    cases r with
    | none =>
      simp only [FoundAt] at h2
      subst h2
      refine ⟨zv, ?_, rfl⟩
      rcases hes with ⟨rfl, rfl⟩ | ⟨rr, cl, rfl, hw⟩
      · simp only [Instr.lookup, Sem.run_bind, run_underlying hu, Result.andThen_ok, hck, h1, hzr, Sem.run_pure]
        cases ok <;> rfl
      · simp only [Instr.lookup, Sem.run_bind, run_underlying hu, Result.andThen_ok, getObj, Sem.run, hw, hck, h1, hzr, Sem.run_pure]
        cases ok <;> rfl
    | some j =>
      obtain ⟨_, me, h3, rfl⟩ := h2
      refine ⟨me.val, ?_, me, by simpa using h3, rfl⟩
      rcases hes with ⟨rfl, rfl⟩ | ⟨rr, cl, rfl, hw⟩
      · simp only [Instr.lookup, Sem.run_bind, run_underlying hu, Result.andThen_ok, hck, h1, Sem.run_pure]
        cases ok <;> rfl
      · simp only [Instr.lookup, Sem.run_bind, run_underlying hu, Result.andThen_ok, getObj, Sem.run, hw, hck, h1, Sem.run_pure]
        cases ok <;> rfl
  have fin : ∀ {ks vs : List AVal} {es : Array MapEntry}, EntRel F L ks vs es.toList →
      ((cm = .map none ∧ es = #[]) ∨ ∃ rr cl, cm = .map (some rr) ∧ w.heap[rr]? = some (.map es cl)) →
      (if eqA sh i i = some true then
        match findA sh i ks 0 with
        | some (some j) => (vs[j]?).map fun v => ((if ok then AVal.tup [v, .bool true] else v), σ)
        | some none => some ((if ok then AVal.tup [z, .bool false] else z), σ)
        | none => none
      else none) = some (v, σ') → σ' = σ ∧ QRes F L σs w (idsOf σ.length 0) (Sem.run P (do pure (Next.value (← Instr.lookup t cm ci ok))) w) v := by
    intro ks vs es hent hes h
    split at h
    case isFalse => simp at h
    rename_i hkk
    split at h
    · rename_i j hf
      simp only [Option.map_eq_some_iff, Prod.mk.injEq] at h
      obtain ⟨u, hu', rfl, rfl⟩ := h
      obtain ⟨val, h1, me, h2, rfl⟩ := key hent hkk hf hes
      obtain ⟨me', h3, h4⟩ := hent.2.2.2 j u hu'
      rw [h2] at h3
      obtain rfl := Option.some.inj h3
      refine ⟨rfl, .still hI (run_v h1) ?_ (idsOf_zero _)⟩
      cases ok
      · simpa using h4
      · simp only [if_true]
        exact .tup rfl fun i c hi => by
          rcases i with _ | _ | i
          · simp at hi; subst hi; exact h4
          · simp at hi; subst hi; exact .bool
          · simp at hi
    · rename_i hf
      obtain ⟨rfl, rfl⟩ := Prod.mk.inj (Option.some.inj h)
      obtain ⟨val, h1, rfl⟩ := key hent hkk hf hes
      refine ⟨rfl, .still hI (run_v h1) ?_ (idsOf_zero _)⟩
      cases ok
      · simpa using hzv
      · simp only [if_true]
        exact .tup rfl fun i c hi => by
          rcases i with _ | _ | i
          · simp at hi; subst hi; exact hzv
          · simp at hi; subst hi; exact .bool
          · simp at hi
    · simp at h
  simp only [stepOp, em, ei] at hs
  cases m <;> (try simp only [reduceCtorEq] at hs)
  case nilm =>
    cases hm
    exact fin (ks := []) (vs := []) (es := #[]) ⟨rfl, rfl, fun i c h => by simp at h, fun i c h => by simp at h⟩ (.inl ⟨rfl, rfl⟩) hs
  case fmap ks vs =>
    cases hm with
    | @fmap _ _ _ r kv hr hk hl hkv hvv =>
      obtain ⟨es, cl, hw, he⟩ := hI.fm r kv hr
      have hlen : es.toList.length = kv.length := by rw [← he]; simp
      refine fin (es := es) ⟨hlen.trans hk, hlen.trans hl, fun i c hc => ?_, fun i c hc => ?_⟩ (.inr ⟨r, cl, rfl, hw⟩) hs
      · have hlt : i < es.toList.length := by rw [hlen, hk]; exact (List.getElem?_eq_some_iff.1 hc).1
        refine ⟨es.toList[i], List.getElem?_eq_getElem hlt, ?_⟩
        have := hkv i c hc
        rw [← he, List.getD_eq_getElem?_getD, List.getElem?_map, List.getElem?_eq_getElem hlt] at this
        exact this.ofNo L
      · have hlt : i < es.toList.length := by rw [hlen, hl]; exact (List.getElem?_eq_some_iff.1 hc).1
        refine ⟨es.toList[i], List.getElem?_eq_getElem hlt, ?_⟩
        have := hvv i c hc
        rw [← he, List.getD_eq_getElem?_getD, List.getElem?_map, List.getElem?_eq_getElem hlt] at this
        exact this.ofNo L
  case map o =>
    split at hs
    · rename_i ks vs ho
      have ho' := (hσ o (List.getElem?_eq_some_iff.1 ho).1).trans ho
      obtain ⟨r, es, cl, rfl, hL, hw, hent⟩ := hI.readMap hm ho'
      exact fin hent (.inr ⟨r, cl, rfl, hw⟩) hs
    · simp at hs

/-- an object that is a map is turned -/
theorem Inv.setMap (hI : Inv F L σ w) (hF : Full L σ) {o r gen : Nat} (hL : L o = .live (.mp r) gen) {ob : AObj} (hob : σ[o]? = some ob) {ks vs : List AVal} {es : Array MapEntry} {clock : Nat}
    (hent : EntRel F L ks vs es.toList) : Inv F L (σ.set o (.map ks vs)) { w with heap := w.heap.setIfInBounds r (.map es clock) } ∧ Adv F L w F L { w with heap := w.heap.setIfInBounds r (.map es clock) } ∧
      Full L (σ.set o (.map ks vs)) := by
  have hlt := (List.getElem?_eq_some_iff.1 hob).1
  have hr : r < w.heap.size := hI.old ⟨o, _, _, hL, rfl⟩
  have := hI.change (o := o) (loc := .mp r) (gen := gen) (ob := .map ks vs) (σ' := σ.set o (.map ks vs)) (w' := { w with heap := w.heap.setIfInBounds r (.map es clock) }) (by simp)
    (fun i _ hi => by rw [List.getElem?_set, if_neg (Ne.symm hi)]) (by simp [hlt])
    (by rw [hL]; exact EvoSt.refl _) rfl rfl rfl (by simp) (fun b' hb' => .inl ⟨_, _, hL, hb'⟩)
    (fun k _ hk => by simp only [Array.getElem?_setIfInBounds]; rw [if_neg (by rintro rfl; exact hk rfl)])
    ⟨r, es, clock, rfl, by simp [hr], hent⟩
  rw [updL_id hL] at this
  exact ⟨this.1, this.2, hF.set o _⟩

theorem sameS_eq {x y : AVal} (h : sameS x y = true) : x = y := by
  unfold sameS at h
  split at h
  · simp_all
  · simp_all
  · rename_i a b
    obtain ⟨⟨x⟩⟩ := a
    obtain ⟨⟨y⟩⟩ := b
    have h' : ((⟨x⟩ : Array UInt8) == ⟨y⟩) = true := h
    simp at h'
    subst h'; rfl
  · simp at h

theorem sameL_eq : ∀ {xs ys : List AVal}, sameL xs ys = true → xs = ys
  | [], [], _ => rfl
  | x :: xs, y :: ys, h => by
    simp only [sameL, Bool.and_eq_true] at h
    rw [sameS_eq h.1, sameL_eq h.2]
  | [], _ :: _, h => by simp [sameL] at h
  | _ :: _, [], h => by simp [sameL] at h

theorem sameS_bits {x y : AVal} (h : sameS x y = true) {cx cy : Value} (hx : VRel F L x cx) (hy : VRel F L y cy) (n : Nat) : Instr.sameBits n cx cy = true := by
  unfold sameS at h
  split at h
  · cases hx; cases hy; simpa [Instr.sameBits] using h
  · cases hx; cases hy; simpa [Instr.sameBits] using h
  · cases hx; cases hy; simpa [Instr.sameBits] using h
  · simp at h

theorem sameL_bits : ∀ {xs ys : List AVal} {ca cb : List Value}, sameL xs ys = true → CellsRel F L xs ca → CellsRel F L ys cb → ∀ n, (ca.zip cb).all (fun (x, y) => Instr.sameBits n x y) = true
  | [], ys, ca, cb, _, h1, _, n => by
    have : ca = [] := by simpa using h1.1
    subst this; rfl
  | x :: xs, [], ca, cb, h, _, _, _ => by simp [sameL] at h
  | x :: xs, y :: ys, [], cb, _, h1, _, n => absurd h1.1 (by simp)
  | x :: xs, y :: ys, a :: ca, [], _, _, h2, n => absurd h2.1 (by simp)
  | x :: xs, y :: ys, a :: ca, b :: cb, h, h1, h2, n => by
    simp only [sameL, Bool.and_eq_true] at h
    have e1 := h1.2 0 x rfl
    have e2 := h2.2 0 y rfl
    simp only [List.zip_cons_cons, List.all_cons, Bool.and_eq_true]
    exact ⟨sameS_bits h.1 e1 e2 n, sameL_bits h.2 ⟨by simpa using h1.1, fun i c hc => h1.2 (i + 1) c (by simpa using hc)⟩ ⟨by simpa using h2.1, fun i c hc => h2.2 (i + 1) c (by simpa using hc)⟩ n⟩

theorem sameA_bits {x y : AVal} (h : sameA x y = true) {cx cy : Value} (hx : VRel F L x cx) (hy : VRel F L y cy) (n : Nat) : x = y ∧ Instr.sameBits (n + 1) cx cy = true := by
  unfold sameA at h
  split at h
  · rename_i xs ys
    obtain ⟨ca, rfl, h1⟩ := CellsRel.ofAgg hx
    obtain ⟨cb, rfl, h2⟩ := CellsRel.ofAgg hy
    refine ⟨by rw [sameL_eq h], ?_⟩
    have e := sameL_eq h
    subst e
    have hsz : ca.size = cb.size := by have a := h1.1; have b := h2.1; simp at a b; omega
    simp only [Instr.sameBits, Bool.and_eq_true, beq_iff_eq]
    exact ⟨hsz, sameL_bits h h1 h2 n⟩
  · exact ⟨sameS_eq h, sameS_bits h hx hy (n + 1)⟩

theorem run_getObj {r : Nat} {es : Array MapEntry} {cl : Nat} (hw : w.heap[r]? = some (.map es cl)) : (getObj r).run P w = .ok (.map es cl) w := by
  simp only [getObj, Sem.run, hw]
theorem run_setObj {r : Nat} {es : Array MapEntry} {cl : Nat} (hw : w.heap[r]? = some (.map es cl)) (o : Obj) : (setObj r o).run P w = .ok () { w with heap := w.heap.setIfInBounds r o } := by
  simp only [setObj, Sem.run, hw]

theorem w_mapup (hI : Inv F L σ w) (hF : Full L σ) {t kt el : TypeId} (hu : P.underlying t = some (.map kt el)) {sh : Shape} (hsh : shapeOf P 20 kt = some sh)
    {m k v : AVal} {cm ck cv : Value} (hm : VRel F L m cm) (hk : VRel F L k ck) (hv : VRel F L v cv) {lv : List Nat} {e : Env} {om ok ov : Opd} (em : ev e om = m) (ek : ev e ok = k) (ev' : ev e ov = v)
    {u : AVal} {σ' : Sto} (hs : stepOp lv (.mapup sh om ok ov) e σ = some (u, σ')) :
    WRes F L σ' w (Sem.run P (do Instr.mapUpdate t cm ck cv; pure .skip) w) u := by
  simp only [stepOp, em, ek, ev'] at hs
  cases m <;> (try simp only [reduceCtorEq] at hs)
  case map o =>
    split at hs
    case h_2 => simp at hs
    rename_i ks vs ho
    split at hs
    case isFalse => simp at hs
    rename_i hc
    obtain ⟨_, hkk⟩ := hc
    obtain ⟨r, es, cl, rfl, hL, hw, hent⟩ := hI.readMap hm ho
    have hck := checkKey_ok (P := P) (w := w) 20 hsh (d := 10000) (by omega) (emp := false) hk hkk
    split at hs
    · rename_i j hf
      split at hs
      case isFalse => simp at hs
      rename_i hsame
      obtain ⟨rfl, rfl⟩ := Prod.mk.inj (Option.some.inj hs)
      obtain ⟨out, h1, _, me, h2, rfl⟩ := find_sound (P := P) (w := w) hsh hk hent.1 hent.2.2.1 hf hkk
      have h2 : es.toList[j]? = some me := by simpa using h2
      have hjlt : j < es.toList.length := (List.getElem?_eq_some_iff.1 h2).1
      have hjk : j < ks.length := by rw [← hent.1]; exact hjlt
      have hkj : ks[j]? = some (ks.getD j .und) := by simp [List.getD_eq_getElem?_getD, List.getElem?_eq_getElem hjk]
      obtain ⟨me', h3, h4⟩ := hent.2.2.1 j _ hkj
      rw [h2] at h3
      obtain rfl := Option.some.inj h3
      obtain ⟨hkeq, hbits⟩ := sameA_bits hsame hk h4 9999
      have hbits' : Instr.sameBits 10000 me.key ck = true := by
        rw [← hkeq] at hsame h4
        exact (sameA_bits hsame h4 hk 9999).2
      have hent' : EntRel F L ks (vs.set j v) (es.modify j fun e => { e with key := ck, val := cv }).toList := by
        refine ⟨by simpa using hent.1, by simpa using hent.2.1, fun i c hc => ?_, fun i c hc => ?_⟩
        · obtain ⟨mm, g1, g2⟩ := hent.2.2.1 i c hc
          by_cases e : i = j
          · subst e
            refine ⟨{ mm with key := ck, val := cv }, ?_, ?_⟩
            · have : es[i]? = some mm := by simpa using g1
              simp [this]
            · rw [hkj] at hc
              obtain rfl := Option.some.inj hc
              rw [← hkeq]; exact hk
          · refine ⟨mm, ?_, g2⟩
            have : es[i]? = some mm := by simpa using g1
            simp [Ne.symm e, this]
        · rw [List.getElem?_set] at hc
          by_cases e : j = i
          · subst e
            rw [if_pos rfl] at hc
            split at hc
            · obtain rfl := Option.some.inj hc
              refine ⟨{ me with key := ck, val := cv }, ?_, hv⟩
              have : es[j]? = some me := by simpa using h2
              simp [this]
            · simp at hc
          · rw [if_neg e] at hc
            obtain ⟨mm, g1, g2⟩ := hent.2.2.2 i c hc
            refine ⟨mm, ?_, g2⟩
            have : es[i]? = some mm := by simpa using g1
            simp [e, this]
      obtain ⟨i1, i2, i3⟩ := hI.setMap hF hL ho (clock := cl) hent'
      refine ⟨_, L, .inr ⟨?_, rfl⟩, i1, i2, i3⟩
      have hes : es[j]? = some me := by simpa using h2
      have hkt : (Instr.keyThatStays (((es[j]?).map (·.key)).getD ck) ck).run P w = .ok ck w := by
        rw [hes]
        simp only [Option.map_some, Option.getD_some, Instr.keyThatStays, hbits', if_true, Sem.run_pure]
      have hset := run_setObj (P := P) hw (.map (es.modify j fun e => { e with key := ck, val := cv }) cl)
      simp only [Instr.mapUpdate, Sem.run_bind, run_underlying hu, Result.andThen_ok, run_getObj hw, hck, h1, hkt, hset, Sem.run_pure]
    · rename_i hf
      obtain ⟨rfl, rfl⟩ := Prod.mk.inj (Option.some.inj hs)
      obtain ⟨out, h1, h2⟩ := find_sound (P := P) (w := w) hsh hk hent.1 hent.2.2.1 hf hkk
      simp only [FoundAt] at h2
      subst h2
      have hent' : EntRel F L (ks ++ [k]) (vs ++ [v]) (es.push { key := ck, val := cv, born := cl }).toList := by
        refine ⟨by have := hent.1; simp at this ⊢; exact this, by have := hent.2.1; simp at this ⊢; exact this, fun i c hc => ?_, fun i c hc => ?_⟩
        · rcases Nat.lt_or_ge i ks.length with h | h
          · rw [List.getElem?_append_left h] at hc
            obtain ⟨mm, g1, g2⟩ := hent.2.2.1 i c hc
            refine ⟨mm, ?_, g2⟩
            rw [Array.toList_push, List.getElem?_append_left (by rw [hent.1]; exact h)]; exact g1
          · rw [List.getElem?_append_right h] at hc
            have hi : i - ks.length = 0 := by have := (List.getElem?_eq_some_iff.1 hc).1; simp at this; omega
            rw [hi] at hc
            simp at hc; subst hc
            refine ⟨{ key := ck, val := cv, born := cl }, ?_, hk⟩
            rw [Array.toList_push, List.getElem?_append_right (by rw [hent.1]; exact h), hent.1, hi]; rfl
        · rcases Nat.lt_or_ge i vs.length with h | h
          · rw [List.getElem?_append_left h] at hc
            obtain ⟨mm, g1, g2⟩ := hent.2.2.2 i c hc
            refine ⟨mm, ?_, g2⟩
            rw [Array.toList_push, List.getElem?_append_left (by rw [hent.2.1]; exact h)]; exact g1
          · rw [List.getElem?_append_right h] at hc
            have hi : i - vs.length = 0 := by have := (List.getElem?_eq_some_iff.1 hc).1; simp at this; omega
            rw [hi] at hc
            simp at hc; subst hc
            refine ⟨{ key := ck, val := cv, born := cl }, ?_, hv⟩
            rw [Array.toList_push, List.getElem?_append_right (by rw [hent.2.1]; exact h), hent.2.1, hi]; rfl
      obtain ⟨i1, i2, i3⟩ := hI.setMap hF hL ho (clock := cl + 1) hent'
      refine ⟨_, L, .inr ⟨?_, rfl⟩, i1, i2, i3⟩
      have hset := run_setObj (P := P) hw (.map (es.push { key := ck, val := cv, born := cl }) (cl + 1))
      simp only [Instr.mapUpdate, Sem.run_bind, run_underlying hu, Result.andThen_ok, run_getObj hw, hck, h1, hset, Sem.run_pure]
    · simp at hs

theorem w_delete (hI : Inv F L σ w) (hF : Full L σ) {ts : Array TypeId} {t ty kt el : TypeId} (ht : ts[0]? = some t) (hu : P.underlying t = some (.map kt el)) {sh : Shape} (hsh : shapeOf P 20 kt = some sh)
    {m k : AVal} {cm ck : Value} (hm : VRel F L m cm) (hk : VRel F L k ck) {lv : List Nat} {e : Env} {om ok : Opd} (em : ev e om = m) (ek : ev e ok = k)
    {u : AVal} {σ' : Sto} (hs : stepOp lv (.delete sh om ok) e σ = some (u, σ')) :
    WRes F L σ' w (Sem.run P (do pure (Next.value (← Builtin.delete_ ts ty #[cm, ck]))) w) u := by
  simp only [stepOp, em, ek] at hs
  cases m <;> (try simp only [reduceCtorEq] at hs)
  case map o =>
    split at hs
    case h_2 => simp at hs
    rename_i ks vs ho
    split at hs
    case isFalse => simp at hs
    rename_i hkk
    obtain ⟨r, es, cl, rfl, hL, hw, hent⟩ := hI.readMap hm ho
    have hck := checkKey_ok (P := P) (w := w) 20 hsh (d := 10000) (by omega) (emp := es.isEmpty) hk hkk
    split at hs
    · rename_i j hf
      obtain ⟨rfl, rfl⟩ := Prod.mk.inj (Option.some.inj hs)
      obtain ⟨out, h1, _, me, h2, rfl⟩ := find_sound (P := P) (w := w) hsh hk hent.1 hent.2.2.1 hf hkk
      have h2 : es.toList[j]? = some me := by simpa using h2
      have hjlt : j < es.toList.length := (List.getElem?_eq_some_iff.1 h2).1
      have hjs : j < es.size := by simpa using hjlt
      have hel : (es.eraseIdxIfInBounds j).toList = es.toList.eraseIdx j := by
        simp [Array.eraseIdxIfInBounds, hjs]
      have hent' : EntRel F L (ks.eraseIdx j) (vs.eraseIdx j) (es.eraseIdxIfInBounds j).toList := by
        rw [hel]
        have hl1 := hent.1
        have hl2 := hent.2.1
        refine ⟨by rw [List.length_eraseIdx, List.length_eraseIdx, hl1], by rw [List.length_eraseIdx, List.length_eraseIdx, hl2], fun i c hc => ?_, fun i c hc => ?_⟩
        · rw [List.getElem?_eraseIdx] at hc ⊢
          split at hc
          · rw [if_pos (by assumption)]; exact hent.2.2.1 i c hc
          · rw [if_neg (by assumption)]; exact hent.2.2.1 _ c hc
        · rw [List.getElem?_eraseIdx] at hc ⊢
          split at hc
          · rw [if_pos (by assumption)]; exact hent.2.2.2 i c hc
          · rw [if_neg (by assumption)]; exact hent.2.2.2 _ c hc
      obtain ⟨i1, i2, i3⟩ := hI.setMap hF hL ho (clock := cl) hent'
      have hset := run_setObj (P := P) hw (.map (es.eraseIdxIfInBounds j) cl)
      refine ⟨_, L, .inl ⟨.tuple #[], run_v ?_, .tup rfl fun i c h => by simp at h⟩, i1, i2, i3⟩
      simp only [Builtin.delete_, ht, List.getElem?_toArray, List.getElem?_cons_zero, List.getElem?_cons_succ, Sem.run_bind, run_underlying hu, Result.andThen_ok, run_getObj hw, hck, h1, hset, Sem.run_pure]
    · rename_i hf
      obtain ⟨rfl, rfl⟩ := Prod.mk.inj (Option.some.inj hs)
      obtain ⟨out, h1, h2⟩ := find_sound (P := P) (w := w) hsh hk hent.1 hent.2.2.1 hf hkk
      simp only [FoundAt] at h2
      subst h2
      have hset := run_setObj (P := P) hw (.map es cl)
      have hsame : ({ w with heap := w.heap.setIfInBounds r (.map es cl) } : World) = w := by
        have : w.heap.setIfInBounds r (.map es cl) = w.heap := by
          apply Array.ext_getElem?
          intro i
          rw [Array.getElem?_setIfInBounds]
          split
          · rename_i e; subst e; rw [hw]; simp [(Array.getElem?_eq_some_iff.1 hw).1]
          · rfl
        rw [this]
      rw [hsame] at hset
      refine ⟨w, L, .inl ⟨.tuple #[], run_v ?_, .tup rfl fun i c h => by simp at h⟩, hI, Adv.refl F L w, hF⟩
      simp only [Builtin.delete_, ht, List.getElem?_toArray, List.getElem?_cons_zero, List.getElem?_cons_succ, Sem.run_bind, run_underlying hu, Result.andThen_ok, run_getObj hw, hck, h1, hset, Sem.run_pure]
    · simp at hs

theorem rowOf_slice {x : AVal} {cx : Value} (hx : VRel F L x cx) {m : Nat} {cs : List AVal} (hI : Inv F L σ w) (h : rowOf σ x = some (m, cs)) : ∃ a c, cx = .slice a m c := by
  unfold rowOf at h
  split at h
  · obtain ⟨rfl, rfl⟩ := Prod.mk.inj (Option.some.inj h); cases hx; exact ⟨_, _, rfl⟩
  · obtain ⟨rfl, rfl⟩ := Prod.mk.inj (Option.some.inj h); cases hx; exact ⟨_, _, rfl⟩
  · obtain ⟨rfl, rfl⟩ := Prod.mk.inj (Option.some.inj h); cases hx; exact ⟨_, _, rfl⟩
  · split at h
    · rename_i nl cs' ho
      split at h
      · rename_i hg
        obtain ⟨rfl, rfl⟩ := Prod.mk.inj (Option.some.inj h)
        rcases hI.readRef hx ho hg with ⟨_, _, rfl, _, rfl, _⟩ | ⟨b, top, c, elem, cap, rfl, _⟩
        · exact ⟨_, _, rfl⟩
        · exact ⟨_, _, rfl⟩
      · simp at h
    · simp at h
  · simp at h

theorem set_same {o : Nat} {ob : AObj} (h : σ[o]? = some ob) : σ.set o ob = σ := by
  apply List.ext_getElem?
  intro i
  rw [List.getElem?_set]
  split
  · rename_i e; subst e
    split
    · exact h.symm
    · rename_i hlt; rw [List.getElem?_eq_none (by omega)]
  · rfl

theorem w_copy (hI : Inv F L σ w) (hF : Full L σ) {ts : Array TypeId} {t ty el : TypeId} (ht : ts[0]? = some t) (hu : P.underlying t = some (.slice el)) {k : Nat} (hk : szOf P el = some k)
    {d s : AVal} {cd cs : Value} (hd : VRel F L d cd) (hs0 : VRel F L s cs) {lv : List Nat} {e : Env} {od os : Opd} (ed : ev e od = d) (es : ev e os = s)
    {u : AVal} {σ' : Sto} (hs : stepOp lv (.copy k od os) e σ = some (u, σ')) :
    WRes F L σ' w (Sem.run P (do pure (Next.value (← Builtin.copy_ ts ty #[cd, cs]))) w) u := by
  have hrun : ∀ {a b : Option Addr} {dl dc m mc : Nat} {vs : List Value} {w' : World}, (Builtin.firstCells k (min m dl) (.slice b m mc)).run P w = .ok vs.toArray w →
      (match a with | some ad => (storeCells ad vs).run P w = .ok () w' | none => w' = w) →
      (Builtin.copy_ ts ty #[.slice a dl dc, .slice b m mc]).run P w = .ok (.int .i64 (min m dl : Nat)) w' := by
    intro a b dl dc m mc vs w' h1 h2
    have h1' : (Builtin.firstCells k (Nat.min m dl) (.slice b m mc)).run P w = .ok vs.toArray w := h1
    simp only [Builtin.copy_, ht, List.getElem?_toArray, List.getElem?_cons_zero, List.getElem?_cons_succ, Sem.run_bind, run_underlying hu, Result.andThen_ok, Builtin.lenOf, Sem.run_pure, run_sizeOf' hk, h1']
    cases a with
    | none => simp only at h2; subst h2; simp only [Sem.run_pure]; rfl
    | some ad => simp only at h2 ⊢; simp only [Sem.run_bind, h2, Result.andThen_ok, Sem.run_pure]; rfl
  simp only [stepOp, ed, es] at hs
  split at hs
  · rename_i mr hrow
    obtain ⟨m, src⟩ := mr
    obtain ⟨rfl, rfl⟩ := Prod.mk.inj (Option.some.inj hs)
    cases hd
    obtain ⟨b, mc, rfl⟩ := rowOf_slice hs0 hI hrow
    have := hrun (a := none) (b := b) (dl := 0) (dc := 0) (m := m) (mc := mc) (vs := []) (w' := w) (by rw [Nat.min_zero]; cases b <;> simp [Builtin.firstCells, loadCells, loadCellsFrom]) rfl
    rw [Nat.min_zero] at this
    exact ⟨w, L, .inl ⟨_, run_v this, .int⟩, hI, Adv.refl F L w, hF⟩
  · rename_i o gen off len k' m src hrow
    split at hs
    case h_2 => simp at hs
    rename_i nl cs' ho
    split at hs
    case isFalse => simp at hs
    rename_i hc
    obtain ⟨hg, rfl, hsl, hle, hlv, hone⟩ := hc
    obtain ⟨rfl, rfl⟩ := Prod.mk.inj (Option.some.inj hs)
    have hone' : ∀ c ∈ src, c.one = true := fun c hc => List.all_eq_true.1 hone c hc
    obtain ⟨b, mc, rfl, vs, h1, h2, h3⟩ := rowOf_rels (P := P) hI hs0 (fun _ _ => rfl) hrow hsl
    have h4 := h3 (min m len) (Nat.min_le_left _ _) w rfl
    rcases hI.readRef hd ho hg with ⟨rfl, rfl, rfl, rfl, rfl, hL⟩ | ⟨b', top, c, elem, cap, rfl, hL, hw, hlc, htop, hgc, hlen, hct, hcs, hone0, hn, hrel⟩
    · have e0 : overwrite [] 0 (List.take (min m 0 * k) src) = [] := by simp [overwrite]
      rw [e0, set_same ho]
      have := hrun (a := none) (dl := 0) (dc := 0) h4 (w' := w) rfl
      exact ⟨w, L, .inl ⟨_, run_v this, .int⟩, hI, Adv.refl F L w, hF⟩
    · have hmin : min m len * k ≤ len * k := Nat.mul_le_mul_right k (Nat.min_le_right _ _)
      obtain ⟨w', g1, g2, g3, g4⟩ := hI.store (P := P) hF hL ho (off := off) (h2.take (min m len * k)) (fun c hc => hone' c (List.mem_of_mem_take hc)) (by
        have := List.length_take_le (min m len * k) src
        omega)
      exact ⟨w', L, .inl ⟨_, run_v (hrun (a := some ⟨b', off, none⟩) (dl := len) (dc := cap) h4 g1), .int⟩, g2, g3, g4⟩
  · simp at hs

theorem w_clear (hI : Inv F L σ w) (hF : Full L σ) {ts : Array TypeId} {t ty el : TypeId} (ht : ts[0]? = some t) (hu : P.underlying t = some (.slice el)) {z : List AVal} (hz : zeroC P el = some z)
    {x : AVal} {cx : Value} (hx : VRel F L x cx) {lv : List Nat} {e : Env} {ox : Opd} (ex : ev e ox = x) {u : AVal} {σ' : Sto} (hs : stepOp lv (.clear z ox) e σ = some (u, σ')) :
    WRes F L σ' w (Sem.run P (do pure (Next.value (← Builtin.clear_ ts ty #[cx]))) w) u := by
  obtain ⟨zv, g1, g2, g3⟩ := zeroC_run hz w F L
  have hzs : zv.cells.size = z.length := by have := g2.1; simpa using this
  have hsl0 : ∀ {a : Option Addr} {c : Nat}, (Builtin.clear_ ts ty #[.slice a 0 c]).run P w = .ok (.tuple #[]) w := by
    intro a c
    simp only [Builtin.clear_, ht, List.getElem?_toArray, List.getElem?_cons_zero, Sem.run_bind, run_underlying hu, Result.andThen_ok]
    cases a <;> rfl
  have htup : VRel F L (.tup []) (.tuple #[]) := .tup rfl fun i c h => by simp at h
  simp only [stepOp, ex] at hs
  split at hs
  · cases hx; obtain ⟨rfl, rfl⟩ := Prod.mk.inj (Option.some.inj hs)
    exact ⟨w, L, .inl ⟨_, run_v hsl0, htup⟩, hI, Adv.refl F L w, hF⟩
  · cases hx; obtain ⟨rfl, rfl⟩ := Prod.mk.inj (Option.some.inj hs)
    have : (Builtin.clear_ ts ty #[.map none]).run P w = .ok (.tuple #[]) w := by
      simp only [Builtin.clear_, ht, List.getElem?_toArray, List.getElem?_cons_zero, Sem.run_bind, run_underlying hu, Result.andThen_ok]
      rfl
    exact ⟨w, L, .inl ⟨_, run_v this, htup⟩, hI, Adv.refl F L w, hF⟩
  · cases hx; obtain ⟨rfl, rfl⟩ := Prod.mk.inj (Option.some.inj hs)
    exact ⟨w, L, .inl ⟨_, run_v hsl0, htup⟩, hI, Adv.refl F L w, hF⟩
  · obtain ⟨rfl, rfl⟩ := Prod.mk.inj (Option.some.inj hs)
    obtain ⟨a, cap, rfl, _⟩ := hx.listInv
    exact ⟨w, L, .inl ⟨_, run_v hsl0, htup⟩, hI, Adv.refl F L w, hF⟩
  · rename_i o gen off len k
    split at hs
    case h_2 => simp at hs
    rename_i nl cs ho
    split at hs
    case isFalse => simp at hs
    rename_i hc
    obtain ⟨hg, rfl, hle, _⟩ := hc
    obtain ⟨rfl, rfl⟩ := Prod.mk.inj (Option.some.inj hs)
    rcases hI.readRef hx ho hg with ⟨rfl, rfl, rfl, rfl, rfl, hL⟩ | ⟨b', top, c, elem, cap, rfl, hL, hw, hlc, htop, hgc, hlen, hct, hcs, hone0, hn, hrel⟩
    · have e0 : overwrite [] 0 (List.replicate 0 z).flatten = [] := by simp [overwrite]
      rw [e0, set_same ho]
      exact ⟨w, L, .inl ⟨_, run_v hsl0, htup⟩, hI, Adv.refl F L w, hF⟩
    · rcases Nat.eq_zero_or_pos len with h0 | h0
      · subst h0
        have e0 : overwrite cs off (List.replicate 0 z).flatten = cs := by simp [overwrite]
        rw [e0, set_same ho]
        exact ⟨w, L, .inl ⟨_, run_v hsl0, htup⟩, hI, Adv.refl F L w, hF⟩
      · have hcr : CellsRel F L (List.replicate len z).flatten (Builtin.zeroCells zv.cells len).toList := by
          have : (Builtin.zeroCells zv.cells len).toList = (List.replicate len zv.cells.toList).flatten := range_mod zv.cells len
          rw [this]; exact g2.replicate len
        obtain ⟨w', q1, q2, q3, q4⟩ := hI.store (P := P) hF hL ho (off := off) hcr (fun c hc => by
          simp only [List.mem_flatten, List.mem_replicate] at hc
          obtain ⟨l, ⟨_, rfl⟩, hc⟩ := hc
          exact g3 c hc) (by simp; omega)
        refine ⟨w', L, .inl ⟨_, run_v (cv := .tuple #[]) ?_, htup⟩, q2, q3, q4⟩
        obtain ⟨n, rfl⟩ : ∃ n, len = n + 1 := ⟨len - 1, by omega⟩
        simp only [Builtin.clear_, ht, List.getElem?_toArray, List.getElem?_cons_zero, Sem.run_bind, run_underlying hu, Result.andThen_ok, g1, q1, Sem.run_pure]
  · simp at hs

theorem fold_max (P : Program) (w : World) : ∀ (rest : List AVal) (cs : List Value) (k : IntKind) (a m : Int), cs.length = rest.length → (∀ (i : Nat) c, rest[i]? = some c → VRel F L c (cs.getD i undef)) → (isMax : Bool) →
    rest.foldlM (fun (m : Int) (v : AVal) => match v with
        | .int _ y => some (if isMax then (if m < y then y else m) else (if y < m then y else m))
        | _ => none) a = some m → (cs.foldlM (if isMax then Builtin.max2 else Builtin.min2) (.int k a)).run P w = .ok (.int k m) w
  | [], [], k, a, m, _, _, isMax, h => by simp at h; subst h; rfl
  | [], _ :: _, k, a, m, hl, _, _, _ => absurd hl (by simp)
  | _ :: _, [], k, a, m, hl, _, _, _ => absurd hl (by simp)
  | x :: rest, c :: cs, k, a, m, hl, hr, isMax, h => by
    have hx := hr 0 x rfl
    simp at hx
    simp only [List.foldlM_cons] at h ⊢
    cases x <;> simp only [Option.bind_eq_bind, Option.bind_none, reduceCtorEq, Option.bind_some] at h
    cases hx
    have ih := fold_max P w rest cs k _ m (by simpa using hl) (fun i c hc => by have := hr (i + 1) c (by simpa using hc); simpa using this) isMax h
    cases isMax
    · simpa [Builtin.min2] using ih
    · simpa [Builtin.max2] using ih

theorem q_minmax (hI : Inv F L σs w) {isMax : Bool} {ts : Array TypeId} {ty : TypeId} {args : Array Operand} {os : List Opd} (ho : opdsA args = some os) {e : Env} {ρ : Operand → Value} (hr : ∀ x ∈ args.toList, Reads F L e ρ x)
    {lv : List Nat} {σ : Sto} {v : AVal} {σ' : Sto} (hs : stepOp lv (.minmax isMax os) e σ = some (v, σ')) :
    σ' = σ ∧ QRes F L σs w (idsOf σ.length 0) (Sem.run P (do pure (Next.value (← (if isMax then Builtin.max_ ts ty (args.map ρ) else Builtin.min_ ts ty (args.map ρ))))) w) v := by
  obtain ⟨h1, h2⟩ := reads_map ho hr
  simp only [stepOp] at hs
  split at hs
  case h_2 => simp at hs
  rename_i k a rest heq
  simp only [Option.map_eq_some_iff, Prod.mk.injEq] at hs
  obtain ⟨m, hm, rfl, rfl⟩ := hs
  rw [heq] at h1 h2
  refine ⟨rfl, .still hI (run_v (cv := .int k m) ?_) .int (idsOf_zero _)⟩
  obtain ⟨c, cs, hcs⟩ : ∃ c cs, (args.map ρ).toList = c :: cs := by
    cases hl : (args.map ρ).toList with
    | nil => have : (args.map ρ).size = 0 := by rw [← Array.length_toList, hl]; rfl
             rw [this] at h1; simp at h1
    | cons c cs => exact ⟨c, cs, rfl⟩
  have hget : ∀ i, (args.map ρ).getD i undef = (c :: cs).getD i undef := by
    intro i
    rw [Array.getD_eq_getD_getElem?, ← Array.getElem?_toList, hcs, List.getD_eq_getElem?_getD]
  have h0 := h2 0 _ rfl
  rw [hget] at h0
  simp at h0
  cases h0
  have hlen : cs.length = rest.length := by
    have : (args.map ρ).toList.length = rest.length + 1 := by rw [Array.length_toList]; simpa using h1
    rw [hcs] at this; simpa using this
  have := fold_max (F := F) (L := L) P w rest cs k a m hlen (fun i c hc => by
    have := h2 (i + 1) c (by simpa using hc)
    rw [hget] at this
    simpa using this) isMax hm
  cases isMax
  · simp only [Bool.false_eq_true, if_false, Builtin.min_] at this ⊢
    rw [hcs]; exact this
  · simp only [if_true, Builtin.max_] at this ⊢
    rw [hcs]; exact this

end
end Go.Abs
