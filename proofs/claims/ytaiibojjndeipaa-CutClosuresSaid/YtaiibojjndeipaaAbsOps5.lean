/- Each operation of the model does what the abstract one says: those that write. -/
import Derived.Test.YtaiibojjndeipaaAbsOps4
set_option linter.all false
namespace Go.Abs
open Go

structure SetB (w : World) (b : Nat) (ob : Obj) (w' : World) : Prop where
  os : w'.os = w.os
  tape : w'.tape = w.tape
  output : w'.output = w.output
  size : w'.heap.size = w.heap.size
  at_ : w'.heap[b]? = some ob
  else_ : ∀ k, k ≠ b → w'.heap[k]? = w.heap[k]?

def WRes (F : Frz) (L : Lay) (σ' : Sto) (w : World) (r : Result Next) (v : AVal) : Prop :=
  ∃ w' L', ((∃ cv, r = .ok (.value cv) w' ∧ VRel F L' v cv) ∨ (r = .ok .skip w' ∧ v = .und)) ∧ Inv F L' σ' w' ∧ Adv F L w F L' w' ∧ Full L' σ'

theorem QRes.toW {F : Frz} {L : Lay} {σ new : Sto} {w : World} {r : Result Next} {v : AVal} (h : QRes F L (σ ++ new) w (idsOf σ.length new.length) r v) (hF : Full L σ) : WRes F L (σ ++ new) w r v := by
  obtain ⟨cv, w', L', h1, h2, h3, h4, h5⟩ := h
  refine ⟨w', L', .inl ⟨cv, h1, h2⟩, h3, h4, fun o ho => (h5 o).2 ?_⟩
  rcases Nat.lt_or_ge o σ.length with h | h
  · exact .inl (hF o h)
  · exact .inr ⟨h, by simpa using ho⟩

theorem updL_id {L : Lay} {o : Nat} {s : Lst} (h : L o = s) : updL L o s = L := by
  funext i
  unfold updL
  split
  · rename_i e; subst e; exact h.symm
  · rfl

section
variable {P : Program} {F : Frz} {L : Lay} {σ : Sto} {w : World}

theorem storeCells_run {b off : Nat} {elem : TypeId} : ∀ (vs : List Value) (i : Nat) {w : World} {c : Array Value}, w.heap[b]? = some (.cells c elem (0, 0)) → off + i + vs.length ≤ c.size → (∀ v ∈ vs, v.oneCell' = true) →
    ∃ w', (storeCells ⟨b, off, none⟩ vs i).run P w = .ok () w' ∧ SetB w b (.cells ((vs.zipIdx i).foldl (fun cs (v, j) => cs.setIfInBounds (off + j) v) c) elem (0, 0)) w'
  | [], i, w, c, hw, _, _ => ⟨w, by simp [storeCells], rfl, rfl, rfl, rfl, by simpa using hw, fun _ _ => rfl⟩
  | v :: vs, i, w, c, hw, hle, ho => by
    simp only [List.length_cons] at hle
    have hcell : w.cell? ⟨b, off + i, none⟩ = some (c.getD (off + i) undef) := World.cell_of_heap hw (p := off + i) (by omega)
    have hfr : w.frozen? ⟨b, off + i, none⟩ = false := by simp [World.frozen?, hw]
    have hb : b < w.heap.size := (Array.getElem?_eq_some_iff.1 hw).1
    have hset : (w.setCell ⟨b, off + i, none⟩ v).heap[b]? = some (.cells (c.setIfInBounds (off + i) v) elem (0, 0)) := by
      simp [World.setCell, Array.getElem?_modify, hw]
    have hsz : off + (i + 1) + vs.length ≤ (c.setIfInBounds (off + i) v).size := by rw [Array.size_setIfInBounds]; omega
    obtain ⟨w', h1, h2⟩ := storeCells_run vs (i + 1) hset hsz (fun u hu => ho u (by simp [hu]))
    refine ⟨w', ?_, ⟨h2.os, h2.tape, h2.output, h2.size.trans (by simp [World.setCell]), ?_, fun k hk => (h2.else_ k hk).trans ?_⟩⟩
    · simp only [storeCells, Sem.run_bind, Addr.add_plain (a := ⟨b, off, none⟩) rfl, run_store P w _ v _ (ho v (by simp)), hcell, hfr]
      simpa using h1
    · rw [h2.at_]; simp
    · simp [World.setCell, Array.getElem?_modify, Ne.symm hk]

theorem CellsRel.one {cs : List AVal} {vs : List Value} (h : CellsRel F L cs vs) (ho : ∀ c ∈ cs, c.one = true) : ∀ v ∈ vs, v.oneCell' = true := by
  intro v hv
  obtain ⟨i, hi⟩ := List.getElem?_of_mem hv
  have hlt : i < cs.length := by rw [← h.1]; exact (List.getElem?_eq_some_iff.1 hi).1
  have := h.2 i cs[i] (List.getElem?_eq_getElem hlt)
  rw [List.getD_eq_getElem?_getD, hi] at this
  exact this.one (ho _ (List.getElem_mem hlt))

/-- cells of an object are overwritten -/
theorem Inv.store (hI : Inv F L σ w) (hF : Full L σ) {o b top gen : Nat} (hL : L o = .live (.blk b top) gen) {nl : Bool} {cs : List AVal} (hσ : σ[o]? = some (.cells nl cs)) {off : Nat} {new : List AVal} {vs : List Value}
    (hrel : CellsRel F L new vs) (hone : ∀ c ∈ new, c.one = true) (hle : off + new.length ≤ cs.length) :
    ∃ w', (storeCells ⟨b, off, none⟩ vs).run P w = .ok () w' ∧ Inv F L (σ.set o (.cells nl (overwrite cs off new))) w' ∧ Adv F L w F L w' ∧ Full L (σ.set o (.cells nl (overwrite cs off new))) := by
  obtain ⟨hg, hone0, hnl, c, elem, hw, hct, hcs, hx⟩ := hI.cells hL hσ
  have hvl := hrel.1
  obtain ⟨w', h1, h2⟩ := storeCells_run (P := P) (off := off) vs 0 hw (by omega) (hrel.one hone)
  have hlt := (List.getElem?_eq_some_iff.1 hσ).1
  have hov := overwrite_length (cs := cs) (new := new) (off := off) hle
  have := hI.change (o := o) (loc := .blk b top) (gen := gen) (ob := .cells nl (overwrite cs off new)) (σ' := σ.set o (.cells nl (overwrite cs off new))) (w' := w') (by simp)
    (fun i _ hi => by rw [List.getElem?_set, if_neg (Ne.symm hi)]) (by simp [hlt])
    (by rw [hL]; exact EvoSt.refl _) h2.os h2.tape h2.output (by rw [h2.size]; exact Nat.le_refl _)
    (fun b' hb' => .inl ⟨_, _, hL, hb'⟩) (fun k _ hk => h2.else_ k (by intro e; subst e; exact hk rfl))
    ⟨by rw [hov]; exact hg, overwrite_one hone0 hone, fun h e => by
        have := congrArg List.length e
        rw [hov] at this
        exact hnl h (List.length_eq_zero_iff.1 (by simpa using this)), _, elem, h2.at_, by rw [foldl_set_size]; exact hct, by rw [hov]; exact hcs, fun p x hp => by
        rw [overwrite_get hle] at hp
        simp only [Array.getD_eq_getD_getElem?, foldl_set_get, Nat.add_zero]
        by_cases q1 : p < off
        · rw [if_pos q1] at hp
          rw [if_neg (by omega), ← Array.getD_eq_getD_getElem?]
          exact hx p x hp
        · rw [if_neg q1] at hp
          by_cases q2 : p < off + new.length
          · rw [if_pos q2] at hp
            rw [if_pos (by omega), ← List.getD_eq_getElem?_getD]
            exact hrel.2 _ x hp
          · rw [if_neg q2] at hp
            rw [if_neg (by omega), ← Array.getD_eq_getD_getElem?]
            exact hx p x hp⟩
  rw [updL_id hL] at this
  exact ⟨w', h1, this.1, this.2, fun i hi => hF i (by simpa using hi)⟩

theorem w_store (hI : Inv F L σ w) (hF : Full L σ) {t : TypeId} {n : Nat} (hsz : szOf P t = some n) {a v : AVal} {ca cv : Value} (ha : VRel F L a ca) (hv : VRel F L v cv) {lv : List Nat} {e : Env} {oa ov : Opd}
    (ea : ev e oa = a) (ev' : ev e ov = v) {u : AVal} {σ' : Sto} (hs : stepOp lv (.store n oa ov) e σ = some (u, σ')) :
    WRes F L σ' w (Sem.run P (do Instr.storeAt t ca cv; pure .skip) w) u := by
  simp only [stepOp, ea, ev'] at hs
  cases a <;> (try simp only [reduceCtorEq] at hs)
  case ptr o gen off =>
    split at hs
    · rename_i nl cs hσ
      split at hs
      · rename_i hc
        obtain ⟨hg, hle, hf, hlv⟩ := hc
        simp only [Option.some.injEq, Prod.mk.injEq] at hs
        obtain ⟨rfl, rfl⟩ := hs
        obtain ⟨b, top, c, elem, rfl, hL, hw, hct, hcs, hone, hn, hrel⟩ := hI.readPtr ha hσ hg
        have hcr := hv.cellsRel hf
        have hlen := AVal.len_of_fits hf
        obtain ⟨w', h1, h2, h3, h4⟩ := hI.store (P := P) hF hL hσ (off := off) hcr (AVal.one_of_fits hf) (by omega)
        have hvs : cv.cells.size = n := by have := hcr.1; simp at this; omega
        refine ⟨w', L, .inr ⟨?_, rfl⟩, h2, h3, h4⟩
        simp [Instr.storeAt, Instr.sureAddr, storeVar, run_sizeOf' hsz, hvs, h1]
      · simp at hs
    · simp at hs

theorem cell?_same {w w' : World} (h : w'.heap = w.heap) (a : Addr) : w'.cell? a = w.cell? a := by simp only [World.cell?, h]

theorem rowOf_rels (hI : Inv F L σ w) {x : AVal} {cx : Value} (hx : VRel F L x cx) {σ0 : Sto} (hσ : ∀ i, i < σ0.length → σ[i]? = σ0[i]?) {m : Nat} {cs : List AVal} (h : rowOf σ0 x = some (m, cs)) {k : Nat}
    (hl : cs.length = m * k) : ∃ a cap, cx = .slice a m cap ∧ ∃ vs : List Value, vs.length = m * k ∧ CellsRel F L cs vs ∧ ∀ n, n ≤ m → ∀ w' : World, w'.heap = w.heap → (Builtin.firstCells k n cx).run P w' = .ok (vs.take (n * k)).toArray w' := by
  unfold rowOf at h
  split at h
  · obtain ⟨rfl, rfl⟩ := Prod.mk.inj (Option.some.inj h)
    cases hx
    exact ⟨none, 0, rfl, [], by simp, CellsRel.nil, fun n hn w' _ => by simp [Builtin.firstCells]⟩
  · obtain ⟨rfl, rfl⟩ := Prod.mk.inj (Option.some.inj h)
    cases hx
    exact ⟨_, 0, rfl, [], by simp, CellsRel.nil, fun n hn w' _ => by
      have : n = 0 := by omega
      subst this
      simp [Builtin.firstCells, loadCells, loadCellsFrom]⟩
  · rename_i k' xs
    obtain ⟨rfl, rfl⟩ := Prod.mk.inj (Option.some.inj h)
    cases hx with
    | @list _ _ a cap _ fv hs hc hk hf ho hv =>
      refine ⟨some a, cap, rfl, (List.range (xs.length * k)).map fv, by simp, ⟨by rw [List.length_map, List.length_range]; exact hl.symm, fun i c hi => ?_⟩, ?_⟩
      · have hlt : i < xs.length * k := by rw [← hl]; exact (List.getElem?_eq_some_iff.1 hi).1
        simp only [List.getD_eq_getElem?_getD, List.getElem?_map, List.getElem?_range hlt, Option.map_some, Option.getD_some]
        exact (hv i c hi).ofNo L
      · intro n hn w' hw'
        have hnk : n * k ≤ xs.length * k := Nat.mul_le_mul_right k hn
        have := run_loadCells (P := P) w' a (n * k) fv (fun j hj => by
          rw [Addr.add_plain (hs (fun he => by subst he; simp at hn; subst hn; simp at hj)), cell?_same hw']
          have hj' : j < (flatC xs).length := by rw [show (flatC xs).length = xs.length * k from hl]; omega
          exact hI.fz _ _ _ (hf j _ (List.getElem?_eq_getElem hj')))
        rw [← List.map_take, List.take_range, Nat.min_eq_left hnk]
        simpa [Builtin.firstCells] using this
  · rename_i o gen off len k'
    split at h
    · rename_i nl cs' ho
      have ho' := (hσ o (List.getElem?_eq_some_iff.1 ho).1).trans ho
      split at h
      · rename_i hg
        obtain ⟨rfl, rfl⟩ := Prod.mk.inj (Option.some.inj h)
        rcases hI.readRef hx ho' hg with ⟨_, rfl, rfl, rfl, rfl, _⟩ | ⟨b, top, c, elem, cap, rfl, hL, hw, hlc, htop, hgc, hlen, hct, hcs, hone, hn, hrel⟩
        · exact ⟨none, 0, rfl, [], by simp, by simpa using CellsRel.nil, fun n hn w' _ => by simp [Builtin.firstCells]⟩
        · have hle : off + len * k ≤ cs'.length := by
            rcases Nat.eq_zero_or_pos len with h0 | h0
            · subst h0; simp at hlen ⊢; omega
            · have : ((cs'.drop off).take (len * k')).length = len * k := hl
              simp only [List.length_take, List.length_drop] at this
              have h1 : min (len * k') (cs'.length - off) ≤ cs'.length - off := Nat.min_le_right _ _
              have h2 : off ≤ cs'.length := by omega
              omega
          refine ⟨_, cap, rfl, (List.range (len * k)).map fun j => c.getD (off + j) undef, by simp, ⟨by simp; simpa using hl.symm, fun i x hi => ?_⟩, ?_⟩
          · have hlt : i < len * k := by rw [← hl]; exact (List.getElem?_eq_some_iff.1 hi).1
            simp only [List.getD_eq_getElem?_getD, List.getElem?_map, List.getElem?_range hlt, Option.map_some, Option.getD_some]
            rw [List.getElem?_take] at hi
            split at hi
            · rw [List.getElem?_drop] at hi; exact hrel _ x hi
            · simp at hi
          · intro n hn w' hw'
            have hnk : n * k ≤ len * k := Nat.mul_le_mul_right k hn
            have := run_loadCells (P := P) w' ⟨b, off, none⟩ (n * k) (fun j => c.getD (off + j) undef) (fun j hj => by
              rw [Addr.add_plain rfl, cell?_same hw']
              exact World.cell_of_heap hw (p := off + j) (by omega))
            rw [← List.map_take, List.take_range, Nat.min_eq_left hnk]
            simpa [Builtin.firstCells] using this
      · simp at h
    · simp at h
  · simp at h

theorem rowOf_rel (hI : Inv F L σ w) {x : AVal} {cx : Value} (hx : VRel F L x cx) {σ0 : Sto} (hσ : ∀ i, i < σ0.length → σ[i]? = σ0[i]?) {m : Nat} {cs : List AVal} (h : rowOf σ0 x = some (m, cs)) {k : Nat}
    (hl : cs.length = m * k) : ∃ a cap, cx = .slice a m cap ∧ ∃ vs : List Value, vs.length = m * k ∧ CellsRel F L cs vs ∧ ∀ w' : World, w'.heap = w.heap → (Builtin.firstCells k m cx).run P w' = .ok vs.toArray w' := by
  obtain ⟨a, cap, rfl, vs, h1, h2, h3⟩ := rowOf_rels (P := P) hI hx hσ h hl
  refine ⟨a, cap, rfl, vs, h1, h2, fun w' hw' => ?_⟩
  have := h3 m (Nat.le_refl _) w' hw'
  rwa [List.take_of_length_le (by omega)] at this

theorem nextcap_bound {need cap : Nat} (h : cap < need) : Builtin.nextslicecap need cap ≤ 2 * need := by
  unfold Builtin.nextslicecap
  split
  · omega
  · split
    · omega
    · rename_i h1 h2
      -- four rounds from c ≥ 256, each at most c + (c + 768) / 4 ≤ 2 c
      have key : ∀ (r c : Nat), 256 ≤ c → c < need → Builtin.growBy need r c ≤ 2 * need := by
        intro r
        induction r with
        | zero => intro c _ hc; simp [Builtin.growBy]; omega
        | succ r ih =>
          intro c h256 hc
          simp only [Builtin.growBy]
          rw [if_neg (by omega)]
          by_cases h3 : c + (c + 768) / 4 < need
          · exact ih _ (by omega) h3
          · cases r with
            | zero => simp [Builtin.growBy]; omega
            | succ r => simp only [Builtin.growBy]; rw [if_pos (by omega)]; omega
      exact key 4 cap (by omega) h

theorem notInt : ∀ (d : TypeDesc), (∀ k, d ≠ .int k) → (match d with | .int _ => true | _ => false) = false := by
  intro d h
  cases d <;> first | rfl | exact absurd rfl (h _)

section app
variable {ts : Array TypeId} {t0 t1 ty el : TypeId} {i : TypeInfo}

theorem run_append_fit (h0 : ts[0]? = some t0) (h1 : ts[1]? = some t1) (hu0 : P.underlying t0 = some (.slice el)) {d1 : TypeDesc} (hu1 : P.underlying t1 = some d1) (hd1 : ∀ k, d1 ≠ .int k) (hi : P.info? el = some i)
    {a b : Option Addr} {len cap m mc : Nat} (hfit : len + m ≤ cap) {vs : List Value} (hvs : (Builtin.firstCells i.size m (.slice b m mc)).run P w = .ok vs.toArray w) {w' : World}
    (hst : match a with | some ad => (storeCells (ad.add (len * i.size)) vs).run P w = .ok () w' | none => w' = w) :
    (Builtin.append_ ts ty #[.slice a len cap, .slice b m mc]).run P w = .ok (.slice a (len + m) cap) w' := by
  have hz := notInt d1 hd1
  have hsz : szOf P el = some i.size := by simp [szOf, hi]
  simp only [Builtin.append_, h0, List.getElem?_toArray, List.getElem?_cons_zero, List.getElem?_cons_succ, Sem.run_bind, h1, run_underlying hu0, run_underlying hu1, Result.andThen_ok, run_sizeOf' hsz, Sem.run_pure, hz, Bool.false_eq_true, if_false,
    Builtin.lenOf]
  rw [if_pos hfit]
  simp only [Bool.not_false, if_true, Sem.run_bind, hvs, Result.andThen_ok]
  cases a with
  | none => simp only at hst; subst hst; simp
  | some ad => simp only at hst ⊢; simp [hst]

theorem run_append_grow (h0 : ts[0]? = some t0) (h1 : ts[1]? = some t1) (hu0 : P.underlying t0 = some (.slice el)) {d1 : TypeDesc} (hu1 : P.underlying t1 = some d1) (hd1 : ∀ k, d1 ≠ .int k) (hi : P.info? el = some i)
    (hb : 0 < i.bytes) {a b : Option Addr} {len cap m mc : Nat} (hgrow : cap < len + m) (hbytes : (len + m) * i.bytes ≤ maxBytes) {z : List AVal} (hz : zeroC P el = some z) (hzl : z.length = i.size) {vs os : List Value}
    (hvs : ∀ w' : World, w'.heap = w.heap → (Builtin.firstCells i.size m (.slice b m mc)).run P w' = .ok vs.toArray w')
    (hos : ∀ w' : World, w'.heap = w.heap → (Builtin.firstCells i.size len (.slice a len cap)).run P w' = .ok os.toArray w') :
    ∃ (w' : World) (nc : Nat) (rest : List Value), (Builtin.append_ ts ty #[.slice a len cap, .slice b m mc]).run P w = .ok (.slice (some ⟨w.heap.size, 0, none⟩) (len + m) nc) w' ∧ len + m ≤ nc ∧
      w'.heap = w.heap.push (.cells (os ++ vs ++ rest).toArray el (0, 0)) ∧ rest.length = (nc - (len + m)) * i.size ∧ w'.os = w.os ∧ w'.tape = w.tape ∧ w'.output = w.output := by
  have hzz := notInt d1 hd1
  have hsz : szOf P el = some i.size := by simp [szOf, hi]
  have hneed : len + m ≤ maxBytes := Nat.le_trans (Nat.le_mul_of_pos_right _ hb) hbytes
  have hnc := nextcap_bound hgrow
  have hnb : Builtin.nextslicecap (len + m) cap * i.bytes ≤ 2 ^ 48 := by
    have h1 : Builtin.nextslicecap (len + m) cap * i.bytes ≤ 2 * (len + m) * i.bytes := Nat.mul_le_mul_right _ hnc
    have h2 : 2 * (len + m) * i.bytes = 2 * ((len + m) * i.bytes) := by rw [Nat.mul_assoc]
    have h3 : maxBytes = 140737488355328 := rfl
    omega
  let w1 : World := { w with drawn := w.drawn + 1 }
  obtain ⟨nc, hncv⟩ : ∃ nc, (Question.appendCap (len + m) cap el).cut (w.tape w.drawn (.appendCap (len + m) cap el)) = nc := ⟨_, rfl⟩
  have hnc' : len + m ≤ nc := by rw [← hncv]; simp only [Question.cut]; omega
  obtain ⟨zv, g1, g2, g3⟩ := zeroC_run hz w1 ⟨fun _ _ => none, fun _ => none⟩ noL
  have hzs : zv.cells.size = i.size := by have := g2.1; simp at this; omega
  refine ⟨w1.alloc (.cells (os ++ vs ++ (Builtin.zeroCells zv.cells (nc - (len + m))).toList).toArray el), nc, (Builtin.zeroCells zv.cells (nc - (len + m))).toList, ?_, hnc', rfl, by simp [Builtin.zeroCells, hzs], rfl, rfl, rfl⟩
  simp only [Builtin.append_, h0, List.getElem?_toArray, List.getElem?_cons_zero, List.getElem?_cons_succ, Sem.run_bind, h1, run_underlying hu0, run_underlying hu1, Result.andThen_ok, run_sizeOf' hsz, Sem.run_pure, hzz, Bool.false_eq_true, if_false,
    Builtin.lenOf]
  rw [if_neg (by omega)]
  have hmax : IntKind.i64.max = 9223372036854775807 := rfl
  have h3 : maxBytes = 140737488355328 := rfl
  have hpan : ¬ (((len + m : Nat) : Int) > IntKind.i64.max ∧ (false = true ∨ i.bytes = 0)) := by rw [hmax]; omega
  simp only [Sem.run_bind, run_info hi, Result.andThen_ok]
  rw [if_neg (by simpa using hpan)]
  simp only [Sem.run_bind, run_info hi, Result.andThen_ok, Sem.run_pure]
  rw [if_neg (by omega)]
  simp only [Sem.run_bind, run_choose, Question.forced, Bool.false_eq_true, if_false, Result.andThen_ok, hncv, run_info hi, run_askRoom, hos w1 rfl, Bool.not_false, if_true, hvs w1 rfl]
  have g1' : (zeroValue el).run P { w with drawn := w.drawn + 1 } = .ok zv w1 := g1
  have hos' := hos { w with drawn := w.drawn + 1 } rfl
  have hvs' := hvs { w with drawn := w.drawn + 1 } rfl
  simp only [hos', hvs', g1', Result.andThen_ok, newRow, Sem.run_bind, run_newObj, Sem.run_pure]
  simp [World.alloc, w1]
  congr 2
  apply Array.ext'
  simp


theorem Full.set {L : Lay} {σ : Sto} (h : Full L σ) (o : Nat) (ob : AObj) : Full L (σ.set o ob) := fun i hi => h i (by simpa using hi)
theorem Full.updSet {L : Lay} {σ : Sto} (h : Full L σ) (o : Nat) (ob : AObj) {s : Lst} (hs : s ≠ .un) : Full (updL L o s) (σ.set o ob) := by
  intro i hi
  by_cases e : i = o
  · subst e; rw [updL_same]; exact hs
  · rw [updL_ne _ _ e]; exact h i (by simpa using hi)

theorem firstCells_zero {a : Option Addr} {k c : Nat} (w' : World) : (Builtin.firstCells k 0 (.slice a 0 c)).run P w' = .ok ([] : List Value).toArray w' := by
  cases a <;> simp [Builtin.firstCells, loadCells, loadCellsFrom]


theorem CellsRel.getL {cs : List AVal} {vs : List Value} (h : CellsRel F L cs vs) {p : Nat} {x : AVal} (hp : cs[p]? = some x) : VRel F L x (vs.toArray.getD p undef) := by
  have := h.2 p x hp
  simpa [Array.getD_eq_getD_getElem?, List.getD_eq_getElem?_getD] using this

/-- what an object holds at the beginning of its row -/
theorem objCells {c : Array Value} {cs : List AVal} (hle : cs.length ≤ c.size) (h : ∀ (p : Nat) (x : AVal), cs[p]? = some x → VRel F L x (c.getD p undef)) (n : Nat) (hn : n ≤ cs.length) :
    CellsRel F L (cs.take n) ((List.range n).map fun j => c.getD j undef) := by
  refine ⟨by simp; omega, fun i x hi => ?_⟩
  rw [List.getElem?_take] at hi
  split at hi
  · rename_i hlt
    simp only [List.getD_eq_getElem?_getD, List.getElem?_map, List.getElem?_range hlt, Option.map_some, Option.getD_some]
    exact h i x hi
  · simp at hi

theorem w_append (hI : Inv F L σ w) (hF : Full L σ) (h0 : ts[0]? = some t0) (h1 : ts[1]? = some t1) (hu0 : P.underlying t0 = some (.slice el)) {d1 : TypeDesc} (hu1 : P.underlying t1 = some d1) (hd1 : ∀ k, d1 ≠ .int k)
    (hi : P.info? el = some i) (hb : 0 < i.bytes) {z : List AVal} (hz : zeroC P el = some z) (hzl : z.length = i.size) {s x : AVal} {cs cx : Value} (hs' : VRel F L s cs) (hx : VRel F L x cx) {lv : List Nat} {e : Env} {os ox : Opd}
    (es : ev e os = s) (ex : ev e ox = x) {u : AVal} {σ' : Sto} (hs : stepOp lv (.append i.size i.bytes os ox) e σ = some (u, σ')) :
    WRes F L σ' w (Sem.run P (do pure (Next.value (← Builtin.append_ ts ty #[cs, cx]))) w) u := by
  simp only [stepOp, es, ex] at hs
  split at hs
  · simp at hs
  rename_i m new hrow
  split at hs
  case isFalse => simp at hs
  rename_i hc
  obtain ⟨hnl, hk, hone⟩ := hc
  have hone' : ∀ c ∈ new, c.one = true := fun c hc => List.all_eq_true.1 hone c hc
  obtain ⟨b, mc, rfl, vs, hvl, hvr, hvrun⟩ := rowOf_rel (P := P) hI hx (fun _ _ => rfl) hrow hnl
  have hstill : ∀ {a : Option Addr} {len cap : Nat}, m = 0 → len ≤ cap → (Builtin.append_ ts ty #[.slice a len cap, .slice b m mc]).run P w = .ok (.slice a len cap) w := by
    intro a len cap hm hlc
    subst hm
    have hv0 : vs = [] := by simpa using hvl
    subst hv0
    have := run_append_fit (P := P) (ty := ty) h0 h1 hu0 hu1 hd1 hi (a := a) (len := len) (cap := cap) (by omega) (hvrun w rfl) (w' := w) (by cases a <;> simp [storeCells])
    simpa using this
  have hnew : ∀ {a : Option Addr} {len cap : Nat} {osv : List Value} {old : List AVal}, cap < len + m → (len + m) * i.bytes ≤ maxBytes → old.length = len * i.size → CellsRel F L old osv → (∀ c ∈ old, c.one = true) →
      (∀ w' : World, w'.heap = w.heap → (Builtin.firstCells i.size len (.slice a len cap)).run P w' = .ok osv.toArray w') →
      ∃ (w' : World) (nc : Nat) (c : Array Value), (Builtin.append_ ts ty #[.slice a len cap, .slice b m mc]).run P w = .ok (.slice (some ⟨w.heap.size, 0, none⟩) (len + m) nc) w' ∧ len + m ≤ nc ∧
        w'.heap = w.heap.push (.cells c el (0, 0)) ∧ c.size = nc * i.size ∧ w'.os = w.os ∧ w'.tape = w.tape ∧ w'.output = w.output ∧
        ∀ (p : Nat) (x : AVal), (old ++ new)[p]? = some x → VRel F L x (c.getD p undef) := by
    intro a len cap osv old hg hby hol hor ho1 hosrun
    obtain ⟨w', nc, rest, g1, g2, g3, g4, g5, g6, g7⟩ := run_append_grow (P := P) (ty := ty) h0 h1 hu0 hu1 hd1 hi hb hg hby hz hzl hvrun hosrun
    refine ⟨w', nc, _, g1, g2, g3, ?_, g5, g6, g7, fun p x hp => ?_⟩
    · have e1 : (nc - (len + m)) * i.size = nc * i.size - (len + m) * i.size := Nat.sub_mul _ _ _
      have e2 : (len + m) * i.size = len * i.size + m * i.size := Nat.add_mul _ _ _
      have e3 : (len + m) * i.size ≤ nc * i.size := Nat.mul_le_mul_right _ g2
      have e4 := hor.1
      simp; omega
    · have hr := hor.append hvr
      have hlt := (List.getElem?_eq_some_iff.1 hp).1
      have := hr.2 p x hp
      have e : (osv ++ vs ++ rest).toArray.getD p undef = (osv ++ vs).getD p undef := by
        rw [Array.getD_eq_getD_getElem?, List.getElem?_toArray, List.getElem?_append_left (by rw [hr.1]; exact hlt), List.getD_eq_getElem?_getD]
      rw [e]; exact this
  -- a first row of its own
  have hfirst : ∀ {a : Option Addr}, m ≠ 0 → m * i.bytes ≤ maxBytes →
      WRes F L (σ ++ [.cells false new]) w (Sem.run P (do pure (Next.value (← Builtin.append_ ts ty #[.slice a 0 0, .slice b m mc]))) w) (.ref σ.length (m * i.size) 0 m i.size) := by
    intro a hm hby
    obtain ⟨w', nc, c, g1, g2, g3, g4, g5, g6, g7, g8⟩ := hnew (a := a) (len := 0) (cap := 0) (osv := []) (old := []) (by omega) (by simpa using hby) (by simp) CellsRel.nil (by simp) (fun w' _ => firstCells_zero w')
    have hun : L σ.length = .un := by
      cases hL : L σ.length with
      | un => rfl
      | dead => have := hI.lt σ.length (by rw [hL]; simp); omega
      | live _ _ => have := hI.lt σ.length (by rw [hL]; simp); omega
    have hI' := hI.extend (σ' := σ ++ [.cells false new]) (fun i hi => List.getElem?_append_left hi) (by simp)
    have := freshRef hI' hun (by simp) hone' g3 g5 g6 g7 (cap := nc) (len := m) (k := i.size) (by omega) g4 (by rw [hnl]; exact Nat.mul_le_mul_right _ (by omega)) (by omega)
      (fun p x hp => g8 p x (by simpa using hp)) (run_v (by simpa using g1))
    rw [hnl] at this
    exact this.toW (new := [.cells false new]) hF
  cases s <;> (try simp only [reduceCtorEq] at hs)
  case nils =>
    cases hs'
    split at hs
    · rename_i hm
      obtain ⟨rfl, rfl⟩ := Prod.mk.inj (Option.some.inj hs)
      exact ⟨w, L, .inl ⟨_, run_v (hstill hm (Nat.le_refl _)), .nils⟩, hI, Adv.refl F L w, hF⟩
    · rename_i hm
      split at hs
      · rename_i hby
        obtain ⟨rfl, rfl⟩ := Prod.mk.inj (Option.some.inj hs)
        exact hfirst hm hby
      · simp at hs
  case emp =>
    cases hs' with
    | emp =>
      split at hs
      · rename_i hm
        obtain ⟨rfl, rfl⟩ := Prod.mk.inj (Option.some.inj hs)
        exact ⟨w, L, .inl ⟨_, run_v (hstill hm (Nat.le_refl _)), .emp⟩, hI, Adv.refl F L w, hF⟩
      · rename_i hm
        split at hs
        · rename_i hby
          obtain ⟨rfl, rfl⟩ := Prod.mk.inj (Option.some.inj hs)
          exact hfirst hm hby
        · simp at hs
  case ref o gen off len k' =>
    split at hs
    case h_2 => simp at hs
    rename_i nl ocs hσ
    split at hs
    case isFalse => simp at hs
    rename_i hcc
    obtain ⟨hg, rfl, hlv⟩ := hcc
    have hlt := (List.getElem?_eq_some_iff.1 hσ).1
    split at hs
    · rename_i hm
      obtain ⟨rfl, rfl⟩ := Prod.mk.inj (Option.some.inj hs)
      rcases hI.readRef hs' hσ hg with ⟨_, _, rfl, rfl, rfl, _⟩ | ⟨b', top, c, elem, cap, rfl, hL, hw, hlc, _⟩
      · exact ⟨w, L, .inl ⟨_, run_v (hstill hm (Nat.le_refl _)), hs'⟩, hI, Adv.refl F L w, hF⟩
      · exact ⟨w, L, .inl ⟨_, run_v (hstill hm hlc), hs'⟩, hI, Adv.refl F L w, hF⟩
    · rename_i hm
      have hmk : 0 < m * i.size := Nat.mul_pos (by omega) hk
      have hadd : (len + m) * i.size = len * i.size + m * i.size := Nat.add_mul _ _ _
      split at hs
      · -- within the row
        rename_i hin
        obtain ⟨rfl, rfl⟩ := Prod.mk.inj (Option.some.inj hs)
        rcases hI.readRef hs' hσ hg with ⟨_, rfl, rfl, rfl, rfl, _⟩ | ⟨b', top, c, elem, cap, rfl, hL, hw, hlc, htop, hgc, hlen, hct, hcs, hone0, hn, hrel⟩
        · simp at hg; subst hg; omega
        · have hfit : len + m ≤ cap := by
            have : (len + m) * i.size ≤ cap * i.size := by omega
            exact Nat.le_of_mul_le_mul_right this hk
          obtain ⟨w', g1, g2, g3, g4⟩ := hI.store (P := P) hF hL hσ (off := off + len * i.size) hvr hone' (by omega)
          have hrun := run_append_fit (P := P) (ty := ty) h0 h1 hu0 hu1 hd1 hi (a := some ⟨b', off, none⟩) (len := len) (cap := cap) hfit (hvrun w rfl) (w' := w') (by dsimp only; rw [Addr.add_plain rfl]; exact g1)
          refine ⟨w', L, .inl ⟨_, run_v hrun, ?_⟩, g2, g3, g4⟩
          refine .ref (by rw [hL]; simp) ⟨_, _, _, rfl⟩ (fun loc g hl => ?_) (fun loc hl => ?_)
          · rw [hL] at hl; injection hl with e1 e2; omega
          · rw [hL] at hl; injection hl with e1 e2; subst e1
            exact ⟨cap, rfl, hfit, htop, hgc, hin⟩
      · rename_i hin
        split at hs
        case isFalse => simp at hs
        rename_i hgr
        obtain ⟨rfl, hby⟩ := hgr
        obtain ⟨rfl, rfl⟩ := Prod.mk.inj (Option.some.inj hs)
        simp only [Nat.zero_add] at hin
        -- the object's new state
        have hlen' : ∀ (hlen : len * i.size ≤ gen), (ocs.take (len * i.size) ++ new).length = (len + m) * i.size := by
          intro hlen
          rw [List.length_append, List.length_take, hnl, hg, Nat.min_eq_left hlen]; omega
        have hone2 : (∀ c ∈ ocs, c.one = true) → ∀ c ∈ ocs.take (len * i.size) ++ new, c.one = true := by
          intro h c hc
          rcases List.mem_append.1 hc with hc | hc
          · exact h c (List.mem_of_mem_take hc)
          · exact hone' c hc
        have hne2 : nl = true → ocs.take (len * i.size) ++ new ≠ [] := by
          intro _ he
          have := congrArg List.length he
          rw [List.length_append, hnl] at this
          simp only [List.length_nil] at this
          omega
        have hfin : ∀ {w' : World} {b' top cap : Nat} {c : Array Value} {elem : TypeId}, len * i.size ≤ gen → EvoSt (L o) (.live (.blk b' top) ((len + m) * i.size)) → w'.os = w.os → w'.tape = w.tape → w'.output = w.output →
            w.heap.size ≤ w'.heap.size → ((∃ top0 gen0, L o = .live (.blk b' top0) gen0) ∨ w.heap.size ≤ b') → (∀ k, k < w.heap.size → k ≠ b' → w'.heap[k]? = w.heap[k]?) → w'.heap[b']? = some (.cells c elem (0, 0)) →
            c.size = top → (len + m) ≤ cap → cap * i.size ≤ top → (∀ c ∈ ocs, c.one = true) → (∀ (p : Nat) (x : AVal), (ocs.take (len * i.size) ++ new)[p]? = some x → VRel F L x (c.getD p undef)) →
            ∀ {r : Result Next}, r = .ok (.value (.slice (some ⟨b', 0, none⟩) (len + m) cap)) w' →
            WRes F L (σ.set o (.cells nl (ocs.take (len * i.size) ++ new))) w r (.ref o ((len + m) * i.size) 0 (len + m) i.size) := by
          intro w' b' top cap c elem hlen hev e1 e2 e3 e4 hB hw hwb hct hcap htop ho1 hrel r hr
          have := hI.change (o := o) (loc := .blk b' top) (gen := (len + m) * i.size) (ob := .cells nl (ocs.take (len * i.size) ++ new)) (σ' := σ.set o (.cells nl (ocs.take (len * i.size) ++ new))) (w' := w') (by simp)
            (fun i _ hi => by rw [List.getElem?_set, if_neg (Ne.symm hi)]) (by simp [hlt]) hev e1 e2 e3 e4
            (fun b2 hb2 => by
              simp [Loc.block?] at hb2; subst hb2
              rcases hB with ⟨t0, g0, h⟩ | h
              · exact .inl ⟨_, _, h, rfl⟩
              · exact .inr h)
            (fun k hk hk2 => hw k hk (by rintro rfl; exact hk2 rfl))
            ⟨(hlen' hlen).symm, hone2 ho1, hne2, c, elem, hwb, hct, by rw [hlen' hlen]; exact Nat.le_trans (Nat.mul_le_mul_right _ hcap) htop, hrel⟩
          refine ⟨w', _, .inl ⟨_, hr, ?_⟩, this.1, this.2, hF.updSet o _ (by simp)⟩
          refine .ref (by rw [updL_same]; simp) ⟨_, _, _, rfl⟩ (fun loc g hl => ?_) (fun loc hl => ?_)
          · rw [updL_same] at hl; injection hl with e1 e2; omega
          · rw [updL_same] at hl; injection hl with e1 e2; subst e1
            exact ⟨cap, rfl, hcap, by omega, by have := Nat.mul_le_mul_right i.size hcap; omega, by omega⟩
        rcases hI.readRef hs' hσ hg with ⟨rfl, rfl, rfl, _, rfl, hL⟩ | ⟨b', top, c, elem, cap, rfl, hL, hw, hlc, htop, hgc, hlen, hct, hcs, hone0, hn, hrel⟩
        · simp only [List.length_nil] at hg
          subst hg
          obtain ⟨w', nc, c, g1, g2, g3, g4, g5, g6, g7, g8⟩ := hnew (a := none) (len := 0) (cap := 0) (osv := []) (old := []) (by omega) hby (by simp) CellsRel.nil (by simp) (fun w' _ => firstCells_zero w')
          exact hfin (b' := w.heap.size) (top := nc * i.size) (cap := nc) (c := c) (elem := el) (by simp) (by rw [hL]; exact .inr (.inr ⟨_, _, _, rfl, by omega, fun r => by simp⟩)) g5 g6 g7 (by rw [g3]; simp)
            (.inr (Nat.le_refl _)) (fun k hk _ => by rw [g3, Array.getElem?_push, if_neg (by omega)]) (by rw [g3]; simp) g4 g2 (Nat.le_refl _) (by simp) (fun p x hp => g8 p x (by simpa using hp)) (run_v g1)
        · have hlen2 : len * i.size ≤ gen := by omega
          have hold := objCells (F := F) (L := L) (by omega) hrel (len * i.size) (by omega)
          by_cases hfit : len + m ≤ cap
          · -- the row has room behind the object
            obtain ⟨w', g1, g2⟩ := storeCells_run (P := P) (off := len * i.size) vs 0 hw (by
              have := Nat.mul_le_mul_right i.size hfit
              omega) (hvr.one hone')
            have hrun := run_append_fit (P := P) (ty := ty) h0 h1 hu0 hu1 hd1 hi (a := some ⟨b', 0, none⟩) (len := len) (cap := cap) hfit (hvrun w rfl) (w' := w') (by dsimp only; rw [Addr.add_plain rfl, Nat.zero_add]; exact g1)
            refine hfin (b' := b') (top := top) (cap := cap) (elem := elem) hlen2 (by rw [hL]; exact .inr (.inr ⟨_, _, _, rfl, by omega, fun r => by simp⟩)) g2.os g2.tape g2.output (by rw [g2.size]; exact Nat.le_refl _)
              (.inl ⟨_, _, hL⟩) (fun k _ hk => g2.else_ k hk) g2.at_ (by rw [foldl_set_size]; exact hct) hfit (by omega) hone0 (fun p x hp => ?_) (run_v hrun)
            have htl : (ocs.take (len * i.size)).length = len * i.size := by rw [List.length_take]; omega
            simp only [Array.getD_eq_getD_getElem?, foldl_set_get, Nat.add_zero]
            have hplt := (List.getElem?_eq_some_iff.1 hp).1
            rw [hlen' hlen2] at hplt
            by_cases q : p < len * i.size
            · rw [if_neg (by omega), ← Array.getD_eq_getD_getElem?]
              rw [List.getElem?_append_left (by omega), List.getElem?_take, if_pos q] at hp
              exact hrel p x hp
            · have hcap2 := Nat.mul_le_mul_right i.size hfit
              rw [if_pos (by omega), ← List.getD_eq_getElem?_getD]
              rw [List.getElem?_append_right (by omega), htl] at hp
              exact hvr.2 _ x hp
          · obtain ⟨w', nc, c2, g1, g2, g3, g4, g5, g6, g7, g8⟩ := hnew (a := some ⟨b', 0, none⟩) (len := len) (cap := cap) (osv := (List.range (len * i.size)).map fun j => c.getD j undef) (old := ocs.take (len * i.size)) (by omega) hby
              (by rw [List.length_take]; omega) hold (fun c hc => hone0 c (List.mem_of_mem_take hc)) (fun w' hw' => by
                have := run_loadCells (P := P) w' ⟨b', 0, none⟩ (len * i.size) (fun j => c.getD j undef) (fun j hj => by
                  rw [Addr.add_plain rfl, cell?_same hw', Nat.zero_add]
                  exact World.cell_of_heap hw (p := j) (by omega))
                simpa [Builtin.firstCells] using this)
            exact hfin (b' := w.heap.size) (top := nc * i.size) (cap := nc) (c := c2) (elem := el) hlen2 (by rw [hL]; exact .inr (.inr ⟨_, _, _, rfl, by omega, fun r => by simp⟩)) g5 g6 g7 (by rw [g3]; simp)
              (.inr (Nat.le_refl _)) (fun k hk _ => by rw [g3, Array.getElem?_push, if_neg (by omega)]) (by rw [g3]; simp) g4 g2 (Nat.le_refl _) hone0 g8 (run_v g1)

end app

end
end Go.Abs
