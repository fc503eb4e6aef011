/- Each operation of the model does what the abstract one says: those that write nothing. -/
import Derived.Test.YtaiibojjndeipaaAbsComp
set_option linter.all false
namespace Go.Abs
open Go

def QRes (F : Frz) (L : Lay) (σs : Sto) (w : World) (ids : Nat → Prop) (r : Result Next) (v : AVal) : Prop :=
  ∃ cv w' L', r = .ok (.value cv) w' ∧ VRel F L' v cv ∧ Inv F L' σs w' ∧ Adv F L w F L' w' ∧ ∀ i, L' i ≠ .un ↔ L i ≠ .un ∨ ids i

theorem QRes.still {F : Frz} {L : Lay} {σs : Sto} {w : World} {r : Result Next} {v : AVal} {cv : Value} (hI : Inv F L σs w) (hr : r = .ok (.value cv) w) (hv : VRel F L v cv)
    {ids : Nat → Prop} (hid : ∀ i, ¬ ids i) : QRes F L σs w ids r v :=
  ⟨cv, w, L, hr, hv, hI, Adv.refl F L w, fun i => ⟨.inl, fun h => h.resolve_right (hid i)⟩⟩

theorem run_v {P : Program} {w w' : World} {cv : Value} {s : Sem Value} (h : s.run P w = .ok cv w') : (do pure (Next.value (← s)) : Sem Next).run P w = .ok (.value cv) w' := by
  simp [h]

theorem Addr.add_plain {a : Addr} (h : a.spot = none) (n : Nat) : a.add n = ⟨a.block, a.off + n, none⟩ := by
  unfold Addr.add
  split
  · rename_i e; subst e; cases a; simp_all
  · rfl

theorem run_isAgg {P : Program} {t : TypeId} {b : Bool} (h : aggT P t = some b) (w : World) : (isAgg t).run P w = .ok b w := by
  unfold aggT at h
  cases hu : P.underlying t with
  | none => rw [hu] at h; simp at h
  | some d =>
    rw [hu] at h
    simp only [Option.map_some, Option.some.injEq] at h
    subst h
    unfold isAgg
    rw [Sem.run_bind, run_underlying hu]
    cases d <;> rfl

theorem run_info {P : Program} {t : TypeId} {i : TypeInfo} (h : P.info? t = some i) (w : World) : (typeInfo t).run P w = .ok i w := by
  simp [typeInfo, h]

theorem run_sizeOf' {P : Program} {t : TypeId} {n : Nat} (h : szOf P t = some n) (w : World) : (sizeOf t).run P w = .ok n w := by
  unfold szOf at h
  simp only [Option.map_eq_some_iff] at h
  obtain ⟨i, hi, rfl⟩ := h
  simp [sizeOf, run_info hi]

theorem zeroC_run {P : Program} {t : TypeId} {z : List AVal} (h : zeroC P t = some z) (w : World) (F : Frz) (L : Lay) :
    ∃ zv, (zeroValue t).run P w = .ok zv w ∧ CellsRel F L z zv.cells.toList ∧ ∀ c ∈ z, c.one = true := by
  unfold zeroC at h
  split at h
  · rename_i i hi
    split at h
    · rename_i zv hz
      exact ⟨zv, by simp [zeroValue, run_info hi, hz], scals_rel h, scals_one h⟩
    · simp at h
  · simp at h

theorem CellsRel.mono {F F' : Frz} {L L' : Lay} {cs : List AVal} {ca : List Value} (h : CellsRel F L cs ca) (hF : F.Le F') (hE : Evo L L') : CellsRel F' L' cs ca :=
  ⟨h.1, fun i c hc => (h.2 i c hc).mono hF hE⟩

theorem CellsRel.append {F : Frz} {L : Lay} {xs ys : List AVal} {xa ya : List Value} (h : CellsRel F L xs xa) (k : CellsRel F L ys ya) : CellsRel F L (xs ++ ys) (xa ++ ya) := by
  refine ⟨by simp [h.1, k.1], fun i c hc => ?_⟩
  rcases Nat.lt_or_ge i xs.length with hi | hi
  · rw [List.getElem?_append_left hi] at hc
    have := h.2 i c hc
    rwa [List.getD_eq_getElem?_getD, List.getElem?_append_left (by rw [h.1]; exact hi), ← List.getD_eq_getElem?_getD]
  · rw [List.getElem?_append_right hi] at hc
    have := k.2 _ c hc
    rwa [List.getD_eq_getElem?_getD, List.getElem?_append_right (by rw [h.1]; exact hi), h.1, ← List.getD_eq_getElem?_getD]

theorem CellsRel.take {F : Frz} {L : Lay} {xs : List AVal} {xa : List Value} (h : CellsRel F L xs xa) (n : Nat) : CellsRel F L (xs.take n) (xa.take n) := by
  refine ⟨by simp [h.1], fun i c hc => ?_⟩
  rw [List.getElem?_take] at hc
  split at hc
  · rename_i hi
    rw [List.getD_eq_getElem?_getD, List.getElem?_take, if_pos hi, ← List.getD_eq_getElem?_getD]
    exact h.2 i c hc
  · simp at hc

theorem CellsRel.drop {F : Frz} {L : Lay} {xs : List AVal} {xa : List Value} (h : CellsRel F L xs xa) (n : Nat) : CellsRel F L (xs.drop n) (xa.drop n) := by
  refine ⟨by simp [h.1], fun i c hc => ?_⟩
  rw [List.getElem?_drop] at hc
  rw [List.getD_eq_getElem?_getD, List.getElem?_drop, ← List.getD_eq_getElem?_getD]
  exact h.2 _ c hc

theorem CellsRel.nil {F : Frz} {L : Lay} : CellsRel F L [] [] := ⟨rfl, fun i c h => by simp at h⟩

theorem CellsRel.replicate {F : Frz} {L : Lay} {xs : List AVal} {xa : List Value} (h : CellsRel F L xs xa) : ∀ n, CellsRel F L (List.replicate n xs).flatten (List.replicate n xa).flatten
  | 0 => CellsRel.nil
  | n + 1 => by
    simp only [List.replicate_succ, List.flatten_cons]
    exact h.append (CellsRel.replicate h n)

theorem CellsRel.agg {F : Frz} {L : Lay} {xs : List AVal} {xa : List Value} (h : CellsRel F L xs xa) : VRel F L (.agg xs) (.agg xa.toArray) :=
  .agg (by simpa using h.1) fun i c hc => by
    have := h.2 i c hc
    simpa [Array.getD_eq_getD_getElem?, List.getD_eq_getElem?_getD] using this

theorem CellsRel.ofAgg {F : Frz} {L : Lay} {xs : List AVal} {v : Value} (h : VRel F L (.agg xs) v) : ∃ xa, v = .agg xa ∧ CellsRel F L xs xa.toList := by
  cases h with
  | agg hl hc => exact ⟨_, rfl, by simpa using hl, fun i c hi => by have := hc i c hi; simpa [Array.getD_eq_getD_getElem?, List.getD_eq_getElem?_getD] using this⟩

/-- a load of cells that are known -/
theorem run_loadVar {P : Program} {F : Frz} {L : Lay} {w : World} {t : TypeId} {ag : Bool} {n : Nat} (hag : aggT P t = some ag) (hsz : szOf P t = some n) {a : Addr} {cs : List AVal}
    {fv : Nat → Value} (hcell : ∀ j c, cs[j]? = some c → w.cell? (a.add j) = some (fv j)) (hrel : ∀ j c, cs[j]? = some c → VRel F L c (fv j)) {v : AVal} (hv : loadA ag n cs = some v) :
    ∃ cv, (loadVar t a).run P w = .ok cv w ∧ VRel F L v cv := by
  unfold loadA at hv
  unfold loadVar
  rw [Sem.run_bind, run_isAgg hag]
  cases ag with
  | true =>
    simp only [if_true] at hv
    split at hv
    · rename_i hn
      obtain rfl := Option.some.inj hv
      have hld := run_loadCells_list (P := P) w a ((List.range n).map fv) (fun j u hj => by
        simp only [List.getElem?_map] at hj
        rcases Nat.lt_or_ge j n with h | h
        · rw [List.getElem?_range h] at hj
          simp at hj
          subst hj
          exact hcell j cs[j] (List.getElem?_eq_getElem (by omega))
        · simp [h] at hj)
      rw [List.length_map, List.length_range] at hld
      refine ⟨.agg ((List.range n).map fv).toArray, ?_, CellsRel.agg ⟨by simp; omega, fun i c hi => ?_⟩⟩
      · simp [run_sizeOf' hsz, hld]
      · rw [List.getElem?_take] at hi
        split at hi
        · rename_i hin
          simp [hin]
          exact hrel i c hi
        · simp at hi
    · simp at hv
  | false =>
    simp only [Bool.false_eq_true, if_false] at hv
    have h0 : cs[0]? = some v := by rw [← List.head?_eq_getElem?]; exact hv
    have hc := hcell 0 v h0
    refine ⟨fv 0, ?_, hrel 0 v h0⟩
    have ha : a.add 0 = a := rfl
    rw [ha] at hc
    simp [hc]

theorem Inv.readPtr {F : Frz} {L : Lay} {σ : Sto} {w : World} (hI : Inv F L σ w) {o gen off : Nat} {cv : Value} (h : VRel F L (.ptr o gen off) cv) {nl : Bool} {cs : List AVal}
    (hσ : σ[o]? = some (.cells nl cs)) (hg : cs.length = gen) : ∃ b top c elem, cv = .pointer (some ⟨b, off, none⟩) ∧ L o = .live (.blk b top) gen ∧ w.heap[b]? = some (.cells c elem (0, 0)) ∧
      c.size = top ∧ cs.length ≤ top ∧ (∀ c ∈ cs, c.one = true) ∧ (nl = true → cs ≠ []) ∧ ∀ (p : Nat) (x : AVal), cs[p]? = some x → VRel F L x (c.getD p undef) := by
  cases h with
  | ptr h0 h1 h2 h =>
    cases hL : L o with
    | un => exact absurd hL h0
    | dead => have := hI.dd o hL; rw [hσ] at this; simp at this
    | live loc g =>
      obtain ⟨ob, h3, h4⟩ := hI.obj o loc g hL
      rw [hσ] at h3
      obtain rfl := Option.some.inj h3
      obtain rfl : g = gen := h4.1.trans hg
      obtain ⟨b, top, rfl, rfl⟩ := h loc hL
      obtain ⟨h5, h6, h7, h8⟩ := hI.cells hL hσ
      obtain ⟨c, elem, h9, h10, h11, h12⟩ := h8
      exact ⟨b, top, c, elem, rfl, rfl, h9, h10, h11, h6, h7, h12⟩

theorem World.cell_of_heap {w : World} {b : Nat} {c : Array Value} {elem : TypeId} {fr : Nat × Nat} (h : w.heap[b]? = some (.cells c elem fr)) {p : Nat} (hp : p < c.size) :
    w.cell? ⟨b, p, none⟩ = some (c.getD p undef) := by
  simp [World.cell?, h, Array.getD, hp]

/-- a load through a pointer -/
theorem loadPtr {P : Program} {F : Frz} {L : Lay} {σ : Sto} {w : World} (hI : Inv F L σ w) {t : TypeId} {ag : Bool} {n : Nat} (hag : aggT P t = some ag) (hsz : szOf P t = some n)
    {o gen off : Nat} {cv : Value} (h : VRel F L (.ptr o gen off) cv) {nl : Bool} {cs : List AVal} (hσ : σ[o]? = some (.cells nl cs)) (hg : cs.length = gen) {v : AVal}
    (hv : loadA ag n (cs.drop off) = some v) : ∃ u, (Instr.loadAt t cv).run P w = .ok u w ∧ VRel F L v u := by
  obtain ⟨b, top, c, elem, rfl, hL, hw, hct, hle, hone, hnl, hrel⟩ := hI.readPtr h hσ hg
  obtain ⟨u, h1, h2⟩ := run_loadVar (P := P) (F := F) (L := L) (w := w) hag hsz (a := ⟨b, off, none⟩) (cs := cs.drop off) (fv := fun j => c.getD (off + j) undef)
    (fun j x hj => by
      rw [List.getElem?_drop] at hj
      have := (List.getElem?_eq_some_iff.1 hj).1
      rw [Addr.add_plain rfl]
      exact World.cell_of_heap hw (p := off + j) (by omega))
    (fun j x hj => by rw [List.getElem?_drop] at hj; exact hrel _ _ hj) hv
  exact ⟨u, by simp [Instr.loadAt, Instr.sureAddr, h1], h2⟩

theorem loadFptr {P : Program} {F : Frz} {L : Lay} {σ : Sto} {w : World} (hI : Inv F L σ w) {t : TypeId} {ag : Bool} {n : Nat} (hag : aggT P t = some ag) (hsz : szOf P t = some n)
    {cs : List AVal} {cv : Value} (h : VRel F L (.fptr cs) cv) {v : AVal} (hv : loadA ag n cs = some v) : ∃ u, (Instr.loadAt t cv).run P w = .ok u w ∧ VRel F L v u := by
  cases h with
  | fptr hs hf ho hr =>
    rename_i a fv
    obtain ⟨u, h1, h2⟩ := run_loadVar (P := P) (F := F) (L := L) (w := w) hag hsz (a := a) (cs := cs) (fv := fv)
      (fun j x hj => by rw [Addr.add_plain hs]; exact hI.fz _ _ _ (hf j x hj)) (fun j x hj => (hr j x hj).ofNo L) hv
    exact ⟨u, by simp [Instr.loadAt, Instr.sureAddr, h1], h2⟩

/-- the numbers of the objects that an operation makes -/
def idsOf (n k : Nat) : Nat → Prop := fun i => n ≤ i ∧ i < n + k
theorem idsOf_zero (n i : Nat) : ¬ idsOf n 0 i := by unfold idsOf; omega

/-- a new row of cells -/
theorem Inv.fresh {F : Frz} {L : Lay} {σs : Sto} {w w' : World} (hI : Inv F L σs w) {n : Nat} (hun : L n = .un) {cs : List AVal} (hn : σs[n]? = some (.cells false cs))
    (hone : ∀ c ∈ cs, c.one = true) {c : Array Value} {elem : TypeId} (hheap : w'.heap = w.heap.push (.cells c elem (0, 0))) (hos : w'.os = w.os) (htape : w'.tape = w.tape)
    (hout : w'.output = w.output) (hle : cs.length ≤ c.size) (hrel : ∀ (p : Nat) (x : AVal), cs[p]? = some x → VRel F L x (c.getD p undef)) :
    Inv F (updL L n (.live (.blk w.heap.size c.size) cs.length)) σs w' ∧ Adv F L w F (updL L n (.live (.blk w.heap.size c.size) cs.length)) w' ∧
      ∀ i, updL L n (.live (.blk w.heap.size c.size) cs.length) i ≠ .un ↔ L i ≠ .un ∨ idsOf n 1 i := by
  have := hI.change (o := n) (loc := .blk w.heap.size c.size) (gen := cs.length) (ob := .cells false cs) (σ' := σs) (w' := w') (Nat.le_refl _) (fun _ _ _ => rfl) hn
    (by rw [hun]; trivial) hos htape hout (by rw [hheap]; simp) (fun b hb => by simp [Loc.block?] at hb; subst hb; exact .inr (Nat.le_refl _))
    (fun k hk _ => by rw [hheap, Array.getElem?_push, if_neg (by omega)])
    ⟨rfl, hone, fun h => by simp at h, c, elem, by rw [hheap]; simp, rfl, hle, hrel⟩
  refine ⟨this.1, this.2, fun i => ?_⟩
  by_cases e : i = n
  · subst e
    rw [updL_same]
    simp [idsOf]
  · rw [updL_ne _ _ e]
    have : ¬ idsOf n 1 i := by unfold idsOf; omega
    simp [this]

theorem getD_of_rel {F : Frz} {L : Lay} {cs : List AVal} {ca : Array Value} (h : CellsRel F L cs ca.toList) {p : Nat} {x : AVal} (hp : cs[p]? = some x) : VRel F L x (ca.getD p undef) := by
  have := h.2 p x hp
  simpa [Array.getD_eq_getD_getElem?, List.getD_eq_getElem?_getD] using this

theorem run_newVar {P : Program} {w : World} {t : TypeId} {v : Value} : (newVar t v).run P w = .ok ⟨w.heap.size, 0, none⟩ { w with heap := w.heap.push (.cells v.cells t) } := by
  simp [newVar, newRow]

/-- 'a new variable': the pointer to it -/
theorem freshPtr {F : Frz} {L : Lay} {σs : Sto} {w w' : World} (hI : Inv F L σs w) {n : Nat} (hun : L n = .un) {cs : List AVal} (hn : σs[n]? = some (.cells false cs))
    (hone : ∀ c ∈ cs, c.one = true) {c : Array Value} {elem : TypeId} (hw' : w' = w.alloc (.cells c elem)) (hrel : CellsRel F L cs c.toList)
    {r : Result Next} (hr : r = .ok (.value (.pointer (some ⟨w.heap.size, 0, none⟩))) w') : QRes F L σs w (idsOf n 1) r (.ptr n cs.length 0) := by
  obtain ⟨h1, h2, h3⟩ := hI.fresh (w' := w') hun hn hone (c := c) (elem := elem) (by subst hw'; rfl) (by subst hw'; rfl) (by subst hw'; rfl) (by subst hw'; rfl)
    (by have := hrel.1; simp at this; omega) (fun p x hp => getD_of_rel hrel hp)
  refine ⟨_, w', _, hr, ?_, h1, h2, h3⟩
  refine .ptr (by rw [updL_same]; simp) ⟨_, rfl⟩ (fun loc g hl => ?_) (fun loc hl => ?_)
  · rw [updL_same] at hl; injection hl with e1 e2; omega
  · rw [updL_same] at hl; injection hl with e1 e2; subst e1; exact ⟨_, _, rfl, rfl⟩

/-- 'a new slice' -/
theorem freshRef {F : Frz} {L : Lay} {σs : Sto} {w w' : World} (hI : Inv F L σs w) {n : Nat} (hun : L n = .un) {cs : List AVal} (hn : σs[n]? = some (.cells false cs))
    (hone : ∀ c ∈ cs, c.one = true) {c : Array Value} {elem : TypeId} (hheap : w'.heap = w.heap.push (.cells c elem (0, 0))) (hos : w'.os = w.os) (htape : w'.tape = w.tape)
    (hout : w'.output = w.output) {len cap k : Nat} (hle : len ≤ cap) (hcap : c.size = cap * k) (hgc : cs.length ≤ cap * k) (hlen : len * k ≤ cs.length)
    (hrel : ∀ (p : Nat) (x : AVal), cs[p]? = some x → VRel F L x (c.getD p undef))
    {r : Result Next} (hr : r = .ok (.value (.slice (some ⟨w.heap.size, 0, none⟩) len cap)) w') : QRes F L σs w (idsOf n 1) r (.ref n cs.length 0 len k) := by
  obtain ⟨h1, h2, h3⟩ := hI.fresh (w' := w') hun hn hone (c := c) (elem := elem) hheap hos htape hout (by omega) hrel
  refine ⟨_, w', _, hr, ?_, h1, h2, h3⟩
  refine .ref (by rw [updL_same]; simp) ⟨_, _, _, rfl⟩ (fun loc g hl => ?_) (fun loc hl => ?_)
  · rw [updL_same] at hl; injection hl with e1 e2; omega
  · rw [updL_same] at hl; injection hl with e1 e2; subst e1
    exact ⟨cap, rfl, hle, by omega, by omega, by omega⟩

theorem q_mv {P : Program} {F : Frz} {L : Lay} {σs : Sto} {w : World} (hI : Inv F L σs w) {e : Env} {ρ : Operand → Value} {x : Operand} {y : Opd} (hx : opdA x = some y)
    (hr : Reads F L e ρ x) (n : Nat) : QRes F L σs w (idsOf n 0) (Sem.run P (pure (Next.value (ρ x))) w) (ev e y) :=
  .still hI (by simp) (hr y hx) (idsOf_zero n)

theorem q_alloc {P : Program} {F : Frz} {L : Lay} {σs : Sto} {w : World} (hI : Inv F L σs w) {t : TypeId} {z : List AVal} (hz : zeroC P t = some z) {n : Nat} (hun : L n = .un)
    (hn : σs[n]? = some (.cells false z)) : QRes F L σs w (idsOf n 1) (Sem.run P (do pure (Next.value (← Instr.alloc t true (.tuple #[])))) w) (.ptr n z.length 0) := by
  obtain ⟨zv, h1, h2, h3⟩ := zeroC_run hz w F L
  exact freshPtr hI hun hn h3 (elem := t) rfl h2 (run_v (by simp [Instr.alloc, h1, newVar, newRow]))

theorem q_box {P : Program} {F : Frz} {L : Lay} {σs : Sto} {w : World} (hI : Inv F L σs w) {t : TypeId} {v : AVal} {cv : Value} {k : Nat} (hv : VRel F L v cv) (hf : v.fits k = true) {n : Nat}
    (hun : L n = .un) (hn : σs[n]? = some (.cells false v.cells)) : QRes F L σs w (idsOf n 1) (Sem.run P (do pure (Next.value (← Instr.box t cv))) w) (.ptr n k 0) := by
  have h2 := hv.cellsRel hf
  have h4 := AVal.len_of_fits hf
  rw [← h4]
  exact freshPtr hI hun hn (AVal.one_of_fits hf) (elem := t) rfl h2 (run_v (by simp [Instr.box, newVar, newRow]))

/-! ### build, buildSlice -/
theorem overwrite_length {cs new : List AVal} {off : Nat} (h : off + new.length ≤ cs.length) : (overwrite cs off new).length = cs.length := by
  simp [overwrite]; omega

theorem overwrite_get {cs new : List AVal} {off : Nat} (h : off + new.length ≤ cs.length) (p : Nat) :
    (overwrite cs off new)[p]? = if p < off then cs[p]? else if p < off + new.length then new[p - off]? else cs[p]? := by
  unfold overwrite
  by_cases h1 : p < off
  · rw [if_pos h1, List.append_assoc, List.getElem?_append_left (by simp; omega), List.getElem?_take, if_pos h1]
  · rw [if_neg h1, List.append_assoc, List.getElem?_append_right (by simp; omega)]
    have : (cs.take off).length = off := by simp; omega
    rw [this]
    by_cases h2 : p < off + new.length
    · rw [if_pos h2, List.getElem?_append_left (by omega)]
    · rw [if_neg h2, List.getElem?_append_right (by omega), List.getElem?_drop]
      congr 1; omega

theorem overwrite_one {cs new : List AVal} {off : Nat} (h1 : ∀ c ∈ cs, c.one = true) (h2 : ∀ c ∈ new, c.one = true) : ∀ c ∈ overwrite cs off new, c.one = true := by
  intro c hc
  simp only [overwrite, List.mem_append] at hc
  rcases hc with (hc | hc) | hc
  · exact h1 c (List.mem_of_mem_take hc)
  · exact h2 c hc
  · exact h1 c (List.mem_of_mem_drop hc)

theorem foldl_set_size (l : List (Value × Nat)) (off : Nat) : ∀ (cs : Array Value), (l.foldl (fun cs (c, j) => cs.setIfInBounds (off + j) c) cs).size = cs.size := by
  induction l with
  | nil => intro cs; rfl
  | cons a l ih => intro cs; simp only [List.foldl_cons]; rw [ih]; simp

theorem foldl_set_get (off : Nat) : ∀ (vs : List Value) (k : Nat) (cs : Array Value) (p : Nat),
    ((vs.zipIdx k).foldl (fun cs (c, j) => cs.setIfInBounds (off + j) c) cs)[p]? = if off + k ≤ p ∧ p < off + k + vs.length ∧ p < cs.size then vs[p - (off + k)]? else cs[p]?
  | [], k, cs, p => by simp; intro h1 h2; omega
  | v :: vs, k, cs, p => by
    rw [List.zipIdx_cons, List.foldl_cons, foldl_set_get off vs (k + 1)]
    simp only [Array.size_setIfInBounds, List.length_cons, Array.getElem?_setIfInBounds]
    by_cases h1 : off + (k + 1) ≤ p ∧ p < off + (k + 1) + vs.length ∧ p < cs.size
    · rw [if_pos h1, if_pos (by omega), show p - (off + k) = (p - (off + (k + 1))) + 1 by omega, List.getElem?_cons_succ]
    · rw [if_neg h1]
      by_cases h2 : off + k = p
      · subst h2
        by_cases h3 : off + k < cs.size
        · rw [if_pos rfl, if_pos h3, if_pos (by omega)]; simp
        · rw [if_pos rfl, if_neg h3, if_neg (by omega)]; simp; omega
      · rw [if_neg h2, if_neg (by omega)]

theorem arrFold (vs : Array Value) (off : Nat) (cs : Array Value) :
    vs.zipIdx.foldl (fun cs (x : Value × Nat) => cs.setIfInBounds (off + x.2) x.1) cs = (vs.toList.zipIdx 0).foldl (fun cs (c, j) => cs.setIfInBounds (off + j) c) cs := by
  rw [← Array.foldl_toList]
  simp

theorem fill_sound {F : Frz} {L : Lay} : ∀ (ps : List (Nat × Nat × AVal)) (vs : List (Nat × Value)) (place : Nat → Option (Nat × Nat)) {cells out : List AVal} {ca : Array Value},
    vs.length = ps.length → (∀ (i : Nat) off size v, ps[i]? = some (off, size, v) → ∃ j cv, vs[i]? = some (j, cv) ∧ place j = some (off, size) ∧ VRel F L v cv) →
    CellsRel F L cells ca.toList → (∀ c ∈ cells, c.one = true) → fillA cells ps = some out → ∃ oa, Instr.fill place ca vs = some oa ∧ CellsRel F L out oa.toList ∧ (∀ c ∈ out, c.one = true) ∧ out.length = cells.length
  | [], vs, place, cells, out, ca, hl, _, hr, ho, h => by
    simp [fillA] at h
    subst h
    obtain rfl : vs = [] := by simpa using hl
    exact ⟨ca, rfl, hr, ho, rfl⟩
  | (off, size, v) :: ps, [], place, cells, out, ca, hl, _, hr, ho, h => by simp at hl
  | (off, size, v) :: ps, (j', cv') :: vs, place, cells, out, ca, hl, hp, hr, ho, h => by
    obtain ⟨j, cv, h1, h2, h3⟩ := hp 0 off size v rfl
    simp at h1
    obtain ⟨rfl, rfl⟩ := h1
    simp only [fillA] at h
    split at h
    · rename_i hc
      simp only [Bool.and_eq_true, decide_eq_true_eq] at hc
      obtain ⟨hf, hle⟩ := hc
      have hlen := AVal.len_of_fits hf
      obtain ⟨k1, k2⟩ := h3.cellsRel hf
      have hsz : cv'.cells.size = size := by rw [← hlen, ← k1]; simp
      have hcs : ca.size = cells.length := by have := hr.1; simpa using this
      have hov := overwrite_length (cs := cells) (new := v.cells) (off := off) (by omega)
      simp only [Instr.fill, h2]
      rw [if_neg (by simp [hsz]; omega), arrFold]
      have hr' : CellsRel F L (overwrite cells off v.cells) ((cv'.cells.toList.zipIdx 0).foldl (fun cs (c, j) => cs.setIfInBounds (off + j) c) ca).toList := by
        refine ⟨by rw [Array.length_toList, foldl_set_size, hov, hcs], fun i c hi => ?_⟩
        rw [overwrite_get (by omega)] at hi
        rw [List.getD_eq_getElem?_getD, Array.getElem?_toList, foldl_set_get]
        simp only [Nat.add_zero, Array.length_toList]
        by_cases q1 : i < off
        · rw [if_pos q1] at hi
          rw [if_neg (by omega), ← Array.getElem?_toList, ← List.getD_eq_getElem?_getD]
          exact hr.2 i c hi
        · rw [if_neg q1] at hi
          by_cases q2 : i < off + v.cells.length
          · rw [if_pos q2] at hi
            rw [if_pos (by omega), ← List.getD_eq_getElem?_getD]
            exact k2 _ c hi
          · rw [if_neg q2] at hi
            rw [if_neg (by omega), ← Array.getElem?_toList, ← List.getD_eq_getElem?_getD]
            exact hr.2 i c hi
      obtain ⟨oa, g1, g2, g3, g4⟩ := fill_sound ps vs place (by simpa using hl) (fun i off size v hi => hp (i + 1) off size v (by simpa using hi)) hr' (overwrite_one ho (AVal.one_of_fits hf)) h
      exact ⟨oa, g1, g2, g3, g4.trans hov⟩
    · simp at h

theorem mapM_run {α β : Type} {P : Program} {w : World} (f : α → Sem β) (g : α → β) : ∀ (l : List α), (∀ x ∈ l, (f x).run P w = .ok (g x) w) → (l.mapM f).run P w = .ok (l.map g) w
  | [], _ => by simp
  | a :: l, h => by
    simp only [List.mapM_cons, Sem.run_bind, h a (by simp), Result.andThen_ok, mapM_run f g l (fun x hx => h x (by simp [hx]))]
    simp

theorem arrMapM_run {α β : Type} {P : Program} {w : World} (f : α → Sem β) (g : α → β) (l : Array α) (h : ∀ x ∈ l.toList, (f x).run P w = .ok (g x) w) : (l.mapM f).run P w = .ok (l.map g) w := by
  rw [← Array.toArray_toList (xs := l)]
  simp only [List.mapM_toArray, Sem.run_map, mapM_run f g l.toList h, Result.andThen_ok, List.map_toArray]

theorem q_build {P : Program} {F : Frz} {L : Lay} {σs : Sto} {w : World} (hI : Inv F L σs w) {t : TypeId} {z : List AVal} (hz : zeroC P t = some z) {fields : Array Field}
    (hu : P.underlying t = some (.struct fields)) (hall : fields.toList.all (fun (f : Field) => (P.info? f.type).isSome) = true) {parts : Array (Nat × Operand)} {e : Env} {ρ : Operand → Value}
    {ps : List (Nat × Nat × Opd)} (hps : parts.toList.mapM (cPart P fields) = some ps) (hr : ∀ p ∈ parts.toList, Reads F L e ρ p.2) {cs : List AVal}
    (hf : fillA z (ps.map fun (o, s, x) => (o, s, ev e x)) = some cs) (n : Nat) :
    QRes F L σs w (idsOf n 0) (Sem.run P (do pure (Next.value (← Instr.build t (parts.map fun (i, x) => (i, ρ x))))) w) (.agg cs) := by
  obtain ⟨zv, h1, h2, h3⟩ := zeroC_run hz w F L
  let place (f : Field) : Nat × Nat := (f.offset, (((P.info? f.type).map fun i => i.size) : Option Nat).getD 0)
  have hplaces : (fields.mapM fun (f : Field) => do pure (f.offset, ← sizeOf f.type)).run P w = .ok (fields.map place) w := by
    refine arrMapM_run _ place fields fun f hf => ?_
    have := List.all_eq_true.1 hall f hf
    obtain ⟨i, hi⟩ := Option.isSome_iff_exists.1 this
    simp [run_sizeOf' (show szOf P f.type = some i.size by simp [szOf, hi]), place, hi]
  obtain ⟨m1, m2⟩ := mapM_some _ hps
  obtain ⟨oa, g1, g2, g3, g4⟩ := fill_sound (F := F) (L := L) (ps.map fun (o, s, x) => (o, s, ev e x)) (parts.toList.map fun (i, x) => (i, ρ x)) ((fields.map place)[·]?) (cells := z) (out := cs) (ca := zv.cells)
    (by simp [m1]) (fun i off size v hi => by
      simp only [List.getElem?_map, Option.map_eq_some_iff] at hi
      obtain ⟨⟨o1, s1, x1⟩, hi1, hi2⟩ := hi
      obtain ⟨⟨j, y⟩, hj, hc⟩ := mapM_back _ hps hi1
      simp only [Prod.mk.injEq] at hi2
      obtain ⟨rfl, rfl, rfl⟩ := hi2
      unfold cPart at hc
      split at hc
      · rename_i f hfj
        split at hc
        · rename_i sz x hsz hx
          simp only [Option.some.injEq, Prod.mk.injEq] at hc
          obtain ⟨rfl, rfl, rfl⟩ := hc
          refine ⟨j, ρ y, by simp [hj], ?_, hr _ (List.mem_of_getElem? hj) _ hx⟩
          unfold szOf at hsz
          simp [place, hfj, hsz]
        · simp at hc
      · simp at hc) h2 h3 hf
  refine .still hI (run_v (cv := .agg oa) ?_) (by simpa using CellsRel.agg g2) (idsOf_zero n)
  simp only [Instr.build, Sem.run_bind, h1, Result.andThen_ok, run_underlying hu, hplaces, Array.toList_map]
  rw [g1]
  rfl

theorem q_buildA {P : Program} {F : Frz} {L : Lay} {σs : Sto} {w : World} (hI : Inv F L σs w) {t : TypeId} {z : List AVal} (hz : zeroC P t = some z) {len : Nat} {el : TypeId}
    (hu : P.underlying t = some (.array len el)) {k : Nat} (hk : szOf P el = some k) {parts : Array (Nat × Operand)} {e : Env} {ρ : Operand → Value}
    {ps : List (Nat × Nat × Opd)} (hps : parts.toList.mapM (cPartA k) = some ps) (hr : ∀ p ∈ parts.toList, Reads F L e ρ p.2) {cs : List AVal}
    (hf : fillA z (ps.map fun (o, s, x) => (o, s, ev e x)) = some cs) (n : Nat) :
    QRes F L σs w (idsOf n 0) (Sem.run P (do pure (Next.value (← Instr.build t (parts.map fun (i, x) => (i, ρ x))))) w) (.agg cs) := by
  obtain ⟨zv, h1, h2, h3⟩ := zeroC_run hz w F L
  obtain ⟨m1, m2⟩ := mapM_some _ hps
  obtain ⟨oa, g1, g2, g3, g4⟩ := fill_sound (F := F) (L := L) (ps.map fun (o, s, x) => (o, s, ev e x)) (parts.toList.map fun (i, x) => (i, ρ x)) (fun i => some (i * k, k)) (cells := z) (out := cs) (ca := zv.cells)
    (by simp [m1]) (fun i off size v hi => by
      simp only [List.getElem?_map, Option.map_eq_some_iff] at hi
      obtain ⟨⟨o1, s1, x1⟩, hi1, hi2⟩ := hi
      obtain ⟨⟨j, y⟩, hj, hc⟩ := mapM_back _ hps hi1
      simp only [Prod.mk.injEq] at hi2
      obtain ⟨rfl, rfl, rfl⟩ := hi2
      simp only [cPartA, Option.map_eq_some_iff, Prod.mk.injEq] at hc
      obtain ⟨x, hx, rfl, rfl, rfl⟩ := hc
      exact ⟨j, ρ y, by simp [hj], rfl, hr _ (List.mem_of_getElem? hj) _ hx⟩) h2 h3 hf
  refine .still hI (run_v (cv := .agg oa) ?_) (by simpa using CellsRel.agg g2) (idsOf_zero n)
  simp only [Instr.build, Sem.run_bind, h1, Result.andThen_ok, run_underlying hu, run_sizeOf' hk, Array.toList_map]
  rw [g1]
  rfl

theorem range_mod (z : Array Value) (len : Nat) : ((Array.range (len * z.size)).map (z[· % z.size]!)).toList = (List.replicate len z.toList).flatten := by
  induction len with
  | zero => simp
  | succ n ih =>
    have hh : ∀ (m : Nat), (List.range (m * z.size)).map (fun x => z[x % z.size]!) = (List.replicate m z.toList).flatten → (List.range ((m + 1) * z.size)).map (fun x => z[x % z.size]!) = (List.replicate (m + 1) z.toList).flatten := by
      intro m hm
      rw [Nat.succ_mul, List.range_add, List.map_append, hm, List.replicate_succ', List.flatten_append]
      congr 1
      simp only [List.flatten_cons, List.flatten_nil, List.append_nil, List.map_map]
      apply List.ext_getElem?
      intro i
      rcases Nat.lt_or_ge i z.size with h | h
      · simp [Nat.mul_add_mod_self_right, Nat.mod_eq_of_lt h, h]
      · simp [h]
    have := hh n (by simpa using ih)
    simpa using this

theorem q_bslice {P : Program} {F : Frz} {L : Lay} {σs : Sto} {w : World} (hI : Inv F L σs w) {t el : TypeId} (hu : P.underlying t = some (.slice el)) {k : Nat} (hk : szOf P el = some k)
    {z : List AVal} (hz : zeroC P el = some z) {len : Nat} (hb : len * k ≤ 2 ^ 24) (hzk : z.length = k) (hk0 : 0 < k) {parts : Array (Nat × Operand)} {e : Env} {ρ : Operand → Value}
    {ps : List (Nat × Opd)} (hps : parts.toList.mapM cPartS = some ps) (hr : ∀ p ∈ parts.toList, Reads F L e ρ p.2) {cs : List AVal}
    (hf : fillA (List.replicate len z).flatten (ps.map fun (i, x) => (i * k, k, ev e x)) = some cs) {n : Nat} (hun : L n = .un) (hn : σs[n]? = some (.cells false cs)) :
    QRes F L σs w (idsOf n 1) (Sem.run P (do pure (Next.value (← Instr.buildSlice t len (parts.map fun (i, x) => (i, ρ x))))) w) (.ref n cs.length 0 len k) := by
  obtain ⟨zv, h1, h2, h3⟩ := zeroC_run hz w F L
  obtain ⟨m1, m2⟩ := mapM_some _ hps
  have hzs : zv.cells.size = k := by have := h2.1; simp at this; omega
  have hrep := range_mod zv.cells len
  rw [hzs] at hrep
  obtain ⟨oa, g1, g2, g3, g4⟩ := fill_sound (F := F) (L := L) (ps.map fun (i, x) => (i * k, k, ev e x)) (parts.toList.map fun (i, x) => (i, ρ x)) (fun i => some (i * k, k)) (cells := (List.replicate len z).flatten)
    (out := cs) (ca := (Array.range (len * k)).map (zv.cells[· % k]!))
    (by simp [m1]) (fun i off size v hi => by
      simp only [List.getElem?_map, Option.map_eq_some_iff] at hi
      obtain ⟨⟨j1, x1⟩, hi1, hi2⟩ := hi
      obtain ⟨⟨j, y⟩, hj, hc⟩ := mapM_back _ hps hi1
      simp only [Prod.mk.injEq] at hi2
      obtain ⟨rfl, rfl, rfl⟩ := hi2
      simp only [cPartS, Option.map_eq_some_iff, Prod.mk.injEq] at hc
      obtain ⟨x, hx, rfl, rfl⟩ := hc
      exact ⟨j, ρ y, by simp [hj], rfl, hr _ (List.mem_of_getElem? hj) _ hx⟩) (by rw [hrep]; exact h2.replicate len)
      (fun c hc => by
        simp only [List.mem_flatten, List.mem_replicate] at hc
        obtain ⟨l, ⟨_, rfl⟩, hc⟩ := hc
        exact h3 c hc) hf
  have hcl : cs.length = len * k := by rw [g4]; simp [hzk]
  have hos : oa.size = len * k := by have := g2.1; simp at this; omega
  refine freshRef hI hun hn g3 (w' := w.alloc (.cells oa el)) (c := oa) (elem := el) rfl rfl rfl rfl (cap := len) (Nat.le_refl _) hos (by omega) (by omega) (fun p x hp => getD_of_rel g2 hp) (run_v ?_)
  have hg1 : Instr.fill (fun i => some (i * k, k)) ((Array.range (len * k)).map (zv.cells[· % k]!)) (List.map (fun (x : Nat × Operand) => (x.1, ρ x.2)) parts.toList) = some oa := by simpa using g1
  simp only [Instr.buildSlice, Sem.run_bind, run_underlying hu, Result.andThen_ok, run_sizeOf' hk, Array.toList_map]
  rw [if_neg (by omega)]
  by_cases h0 : len * k = 0
  · have hl0 : len = 0 := by
      rcases Nat.mul_eq_zero.1 h0 with h | h
      · exact h
      · omega
    subst hl0
    rw [if_pos h0]
    have e0 : Array.range (0 * k) = #[] := by simp
    simp only [e0, List.map_toArray, List.map_nil] at hg1
    simp only [Sem.run_bind, Sem.run_pure, Result.andThen_ok, e0, List.map_toArray, List.map_nil]
    rw [hg1]
    simp [newRow]
  · rw [if_neg h0]
    simp only [Sem.run_bind, h1, Result.andThen_ok, Sem.run_pure, hzs]
    rw [hg1]
    simp [newRow]

end Go.Abs
