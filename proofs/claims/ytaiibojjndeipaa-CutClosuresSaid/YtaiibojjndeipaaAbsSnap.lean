/- Memory read off as trees: what is frozen at a return, and what is lent to a call. -/
import Derived.Test.YtaiibojjndeipaaAbsRel
set_option linter.all false
namespace Go.Abs
open Go

theorem chunk_length (k : Nat) : ∀ (n : Nat) (cs : List AVal), (chunk k n cs).length = n
  | 0, _ => rfl
  | n + 1, cs => by simp [chunk, chunk_length k n]

theorem AVal.cells_of_one {c : AVal} (h : c.one = true) : c.cells = [c] := by cases c <;> simp_all [AVal.one, AVal.cells]

theorem chunk_flat (k : Nat) (hk : 0 < k) : ∀ (n : Nat) (cs : List AVal), cs.length = n * k → (∀ c ∈ cs, c.one = true) → flatC (chunk k n cs) = cs
  | 0, cs, h, _ => by simp at h; subst h; rfl
  | n + 1, cs, h, ho => by
    have hl : k ≤ cs.length := by rw [h, Nat.succ_mul]; omega
    have ih := chunk_flat k hk n (cs.drop k) (by rw [List.length_drop, h, Nat.succ_mul]; omega) fun c hc => ho c (List.mem_of_mem_drop hc)
    rw [chunk, flatC, List.flatMap_cons, ← flatC, ih]
    split
    · rename_i e
      subst e
      cases cs with
      | nil => simp at hl
      | cons c cs => simp [AVal.cells_of_one (ho c (by simp))]
    · simp [AVal.cells]

theorem chunk_cells (k : Nat) (hk : 0 < k) : ∀ (n : Nat) (cs : List AVal), cs.length = n * k → (∀ c ∈ cs, c.one = true) → ∀ x ∈ chunk k n cs, x.cells.length = k
  | 0, cs, _, _ => by simp [chunk]
  | n + 1, cs, h, ho => by
    have hl : k ≤ cs.length := by rw [h, Nat.succ_mul]; omega
    have ih := chunk_cells k hk n (cs.drop k) (by rw [List.length_drop, h, Nat.succ_mul]; omega) fun c hc => ho c (List.mem_of_mem_drop hc)
    intro x hx
    rw [chunk, List.mem_cons] at hx
    rcases hx with rfl | hx
    · split
      · rename_i e
        subst e
        cases cs with
        | nil => simp at hl
        | cons c cs => simp [AVal.cells_of_one (ho c (by simp))]
      · simp [AVal.cells, hl]
    · exact ih x hx

open Classical in
/-- all that the live objects hold, frozen -/
noncomputable def freezeAll (F : Frz) (L : Lay) (w : World) : Frz where
  cells b off := if Owns L b then w.cell? ⟨b, off, none⟩ else F.cells b off
  maps r := if Owns L r then (match w.heap[r]? with | some (.map es _) => some (es.toList.map fun e => (e.key, e.val)) | _ => none) else F.maps r

theorem freezeAll_le {F : Frz} {L : Lay} {σ : Sto} {w : World} (hI : Inv F L σ w) : F.Le (freezeAll F L w) := by
  constructor
  · intro b o v h
    have hn : ¬ Owns L b := fun ho => by have := (hI.sep b ho).1 o; rw [this] at h; exact absurd h (by simp)
    simp only [freezeAll, if_neg hn]; exact h
  · intro r kv h
    have hn : ¬ Owns L r := fun ho => by have := (hI.sep r ho).2; rw [this] at h; exact absurd h (by simp)
    simp only [freezeAll, if_neg hn]; exact h

theorem not_owns_noL (b : Nat) : ¬ Owns noL b := fun ⟨_, _, _, h, _⟩ => by simp [noL] at h

theorem Inv.frozen {F : Frz} {L : Lay} {σ : Sto} {w : World} (hI : Inv F L σ w) (σ' : Sto) : Inv (freezeAll F L w) noL σ' w := by
  refine ⟨?_, ?_, fun o loc gen h => by simp [noL] at h, fun o h => absurd rfl h, fun o o' l l' g g' b h => by simp [noL] at h, fun b hb => absurd hb (not_owns_noL b), fun o h => by simp [noL] at h⟩
  · intro b off v h
    simp only [freezeAll] at h
    split at h
    · exact h
    · exact hI.fz b off v h
  · intro r kv h
    simp only [freezeAll] at h
    split at h
    · split at h
      · rename_i es cl hw
        exact ⟨es, cl, hw, Option.some.inj h⟩
      · exact absurd h (by simp)
    · exact hI.fm r kv h

theorem mapM_some {α β : Type} (f : α → Option β) : ∀ {l : List α} {l' : List β}, l.mapM f = some l' → l'.length = l.length ∧ ∀ (i : Nat) (x : α), l[i]? = some x → ∃ y, l'[i]? = some y ∧ f x = some y
  | [], l', h => by simp at h; subst h; simp
  | a :: l, l', h => by
    simp only [List.mapM_cons, Option.pure_def, Option.bind_eq_bind, Option.bind_eq_some_iff] at h
    obtain ⟨b, hb, bs, hbs, e⟩ := h
    obtain rfl := Option.some.inj e
    obtain ⟨h1, h2⟩ := mapM_some f hbs
    refine ⟨by simp [h1], fun i x hi => ?_⟩
    cases i with
    | zero => simp at hi; subst hi; exact ⟨b, rfl, hb⟩
    | succ i => exact h2 i x (by simpa using hi)

theorem mapM_back {α β : Type} (f : α → Option β) {l : List α} {l' : List β} (h : l.mapM f = some l') {i : Nat} {y : β} (hi : l'[i]? = some y) : ∃ x, l[i]? = some x ∧ f x = some y := by
  obtain ⟨h1, h2⟩ := mapM_some f h
  have hlt : i < l.length := by rw [← h1]; exact (List.getElem?_eq_some_iff.1 hi).1
  obtain ⟨y', h3, h4⟩ := h2 i l[i] (List.getElem?_eq_getElem hlt)
  rw [hi] at h3
  obtain rfl := Option.some.inj h3
  exact ⟨_, List.getElem?_eq_getElem hlt, h4⟩

theorem snapA_one {σ : Sto} {n : Nat} {v v' : AVal} (h : snapA σ n v = some v') (ho : v.one = true) : v'.one = true := by
  cases n with
  | zero => simp [snapA] at h
  | succ n =>
    unfold snapA at h
    split at h
    · obtain rfl := Option.some.inj h; exact ho
    · cases v <;> simp only [Option.map_eq_some_iff, reduceCtorEq] at h
      all_goals first
        | (obtain ⟨_, _, rfl⟩ := h; first | rfl | (simp [AVal.one] at ho))
        | (split at h
           · first
             | (split at h
                · first
                  | (split at h
                     · obtain rfl := Option.some.inj h; rfl
                     · simp only [Option.map_eq_some_iff] at h; obtain ⟨_, _, rfl⟩ := h; rfl)
                  | (simp only [Option.map_eq_some_iff] at h; obtain ⟨_, _, rfl⟩ := h; rfl)
                  | (obtain rfl := Option.some.inj h; rfl)
                · first
                  | (simp at h; done)
                  | (obtain rfl := Option.some.inj h; rfl))
             | (obtain rfl := Option.some.inj h; rfl)
           · simp at h)

theorem snapA_und {σ : Sto} {n : Nat} {v v' : AVal} (h : snapA σ n v = some v') (ho : v ≠ .und) : v' ≠ .und := by
  cases n with
  | zero => simp [snapA] at h
  | succ n =>
    unfold snapA at h
    split at h
    · obtain rfl := Option.some.inj h; exact ho
    · cases v <;> simp only [Option.map_eq_some_iff, reduceCtorEq] at h
      all_goals first
        | (obtain ⟨_, _, rfl⟩ := h; simp; done)
        | (split at h
           · first
             | (split at h
                · first
                  | (split at h
                     · obtain rfl := Option.some.inj h; simp
                     · simp only [Option.map_eq_some_iff] at h; obtain ⟨_, _, rfl⟩ := h; simp)
                  | (simp only [Option.map_eq_some_iff] at h; obtain ⟨_, _, rfl⟩ := h; simp)
                  | (obtain rfl := Option.some.inj h; simp)
                · first
                  | (simp at h; done)
                  | (obtain rfl := Option.some.inj h; simp))
             | (obtain rfl := Option.some.inj h; simp)
           · simp at h)

/-- A live object that can be seen. -/
theorem Inv.liveAt {F : Frz} {L : Lay} {σ : Sto} {w : World} (hI : Inv F L σ w) {o : Nat} (h0 : L o ≠ .un) {ob : AObj} (hσ : σ[o]? = some ob) (hd : ob ≠ .dead) :
    ∃ loc gen, L o = .live loc gen ∧ ObjOk F L w loc gen ob := by
  cases hL : L o with
  | un => exact absurd hL h0
  | dead => have := hI.dd o hL; rw [hσ] at this; exact absurd (Option.some.inj this) hd
  | live loc gen =>
    obtain ⟨ob', h1, h2⟩ := hI.obj o loc gen hL
    rw [hσ] at h1
    obtain rfl := Option.some.inj h1
    exact ⟨loc, gen, rfl, h2⟩

theorem snapA_rel {F : Frz} {L : Lay} {σ σs : Sto} {w : World} (hI : Inv F L σs w) (hpre : ∀ i, i < σ.length → σs[i]? = σ[i]?) :
    ∀ (n : Nat) {v v' : AVal} {cv : Value}, snapA σ n v = some v' → VRel F L v cv → VRel (freezeAll F L w) noL v' cv := by
  have hle := freezeAll_le hI
  intro n
  induction n with
  | zero => intro v v' cv h; simp [snapA] at h
  | succ n ih =>
    intro v v' cv h hr
    unfold snapA at h
    split at h
    · rename_i hp
      obtain rfl := Option.some.inj h
      exact (hr.toPure hp noL).frz hle
    · rename_i hp
      cases v with
      | ref o gen off len k =>
        simp only at h
        split at h
        · rename_i nl cs hσ
          split at h
          · rename_i hc
            obtain ⟨hc1, hc2, hk⟩ := hc
            have hσ' := (hpre o (List.getElem?_eq_some_iff.1 hσ).1).trans hσ
            cases hr with
            | ref h0 h1 h2 hR =>
              obtain ⟨loc, g, hL, hok⟩ := hI.liveAt h0 hσ' (by simp)
              obtain ⟨hg, hone, hrest⟩ := hok
              obtain rfl : g = gen := by omega
              have hR := hR loc hL
              cases loc with
              | mp r => exact hrest.elim
              | nil =>
                obtain ⟨rfl, rfl⟩ := hrest
                obtain ⟨rfl, rfl, rfl⟩ := hR
                simp at h
                subst h
                exact .nils
              | blk b top =>
                obtain ⟨hnl, c, elem, hw, hct, hcs, hx⟩ := hrest
                obtain ⟨cap, rfl, hlc, htop, hgc, hlen⟩ := hR
                have hbr : (nl && cs.isEmpty) = false := by
                  cases nl with
                  | false => rfl
                  | true => have := hnl rfl; cases cs with
                    | nil => exact absurd rfl this
                    | cons _ _ => rfl
                rw [hbr] at h
                simp only [Bool.false_eq_true, if_false, Option.map_eq_some_iff] at h
                obtain ⟨cs', hcs', rfl⟩ := h
                obtain ⟨hm1, hm2⟩ := mapM_some _ hcs'
                have hl' : cs'.length = len * k := by rw [hm1, List.length_take, List.length_drop]; omega
                have hone' : ∀ c ∈ cs', c.one = true := by
                  intro x hx
                  obtain ⟨i, hi⟩ := List.getElem?_of_mem hx
                  obtain ⟨y, hy, hs⟩ := mapM_back _ hcs' hi
                  refine snapA_one hs (hone y ?_)
                  rw [List.getElem?_take] at hy
                  split at hy
                  · rw [List.getElem?_drop] at hy; exact List.mem_of_getElem? hy
                  · simp at hy
                have hfl := chunk_flat k hk len cs' hl' hone'
                have hown : Owns L b := ⟨o, _, _, hL, rfl⟩
                have hcells : ∀ (p : Nat) (x : AVal), cs'[p]? = some x → ∃ y, cs[off + p]? = some y ∧ snapA σ n y = some x ∧ off + p < cs.length := by
                  intro p x hp
                  obtain ⟨y, hy, hs⟩ := mapM_back _ hcs' hp
                  rw [List.getElem?_take] at hy
                  split at hy
                  · rw [List.getElem?_drop] at hy; exact ⟨y, hy, hs, (List.getElem?_eq_some_iff.1 hy).1⟩
                  · simp at hy
                have hlen2 := chunk_length k len cs'
                have := VRel.list (F := freezeAll F L w) (L := noL) (xs := chunk k len cs') (a := ⟨b, off, none⟩) (cap := cap) (k := k) (fv := fun p => c.getD (off + p) undef)
                  (fun _ => rfl) (by omega) (chunk_cells k hk len cs' hl' hone')
                  (fun p x hp => by
                    rw [hfl] at hp
                    obtain ⟨y, hy, hs, hlt⟩ := hcells p x hp
                    simp only [freezeAll, if_pos hown, World.cell?, hw]
                    simp only [Option.isSome_none, Bool.false_eq_true, if_false]
                    rw [Array.getElem?_eq_getElem (by omega)]
                    simp [Array.getD, show off + p < c.size by omega])
                  (fun p x hp => by rw [hfl] at hp; exact hone' x (List.mem_of_getElem? hp))
                  (fun p x hp => by
                    rw [hfl] at hp
                    obtain ⟨y, hy, hs, hlt⟩ := hcells p x hp
                    exact ih hs (hx _ _ hy))
                rwa [hlen2] at this
          · simp at h
        · simp at h
      | ptr o gen off =>
        simp only at h
        split at h
        · rename_i nl cs hσ
          split at h
          · rename_i hc
            simp only [Option.map_eq_some_iff] at h
            obtain ⟨cs', hcs', rfl⟩ := h
            have hσ' := (hpre o (List.getElem?_eq_some_iff.1 hσ).1).trans hσ
            cases hr with
            | ptr h0 h1 h2 hR =>
              obtain ⟨loc, g, hL, hok⟩ := hI.liveAt h0 hσ' (by simp)
              obtain ⟨hg, hone, hrest⟩ := hok
              obtain rfl : g = gen := by omega
              obtain ⟨b, top, rfl, rfl⟩ := hR loc hL
              obtain ⟨hnl, c, elem, hw, hct, hcs, hx⟩ := hrest
              have hown : Owns L b := ⟨o, _, _, hL, rfl⟩
              have hcells : ∀ (p : Nat) (x : AVal), cs'[p]? = some x → ∃ y, cs[off + p]? = some y ∧ snapA σ n y = some x ∧ off + p < cs.length := by
                intro p x hp
                obtain ⟨y, hy, hs⟩ := mapM_back _ hcs' hp
                rw [List.getElem?_drop] at hy
                exact ⟨y, hy, hs, (List.getElem?_eq_some_iff.1 hy).1⟩
              exact VRel.fptr (fv := fun p => c.getD (off + p) undef) rfl
                (fun p x hp => by
                  obtain ⟨y, hy, hs, hlt⟩ := hcells p x hp
                  simp only [freezeAll, if_pos hown, World.cell?, hw]
                  simp only [Option.isSome_none, Bool.false_eq_true, if_false]
                  rw [Array.getElem?_eq_getElem (by omega)]
                  simp [Array.getD, show off + p < c.size by omega])
                (fun p x hp => by
                  obtain ⟨y, hy, hs, hlt⟩ := hcells p x hp
                  exact snapA_one hs (hone y (List.mem_of_getElem? hy)))
                (fun p x hp => by
                  obtain ⟨y, hy, hs, hlt⟩ := hcells p x hp
                  exact ih hs (hx _ _ hy))
          · simp at h
        · simp at h
      | map o =>
        simp only at h
        split at h
        · rename_i ks vs hσ
          split at h
          · rename_i ks' vs' hks hvs
            obtain rfl := Option.some.inj h
            have hσ' := (hpre o (List.getElem?_eq_some_iff.1 hσ).1).trans hσ
            cases hr with
            | map h0 h1 hR =>
              obtain ⟨loc, g, hL, hok⟩ := hI.liveAt h0 hσ' (by simp)
              obtain ⟨r, es, cl, rfl, hw, hl1, hl2, hkr, hvr⟩ := hok
              obtain ⟨r', hr', rfl⟩ := hR _ _ hL
              injection hr' with e
              subst e
              have hown : Owns L r := ⟨o, _, _, hL, rfl⟩
              obtain ⟨k1, k2⟩ := mapM_some _ hks
              obtain ⟨v1, v2⟩ := mapM_some _ hvs
              refine VRel.fmap (kv := es.toList.map fun e => (e.key, e.val)) (by simp only [freezeAll, if_pos hown, hw]) (by simp; simpa [k1] using hl1) (by simp; simpa [v1] using hl2) ?_ ?_
              · intro i x hi
                obtain ⟨y, hy, hs⟩ := mapM_back _ hks hi
                obtain ⟨m, hm, hv⟩ := hkr i y hy
                simp only [List.getD_eq_getElem?_getD, List.getElem?_map, hm, Option.map_some, Option.getD_some]
                exact ih hs hv
              · intro i x hi
                obtain ⟨y, hy, hs⟩ := mapM_back _ hvs hi
                obtain ⟨m, hm, hv⟩ := hvr i y hy
                simp only [List.getD_eq_getElem?_getD, List.getElem?_map, hm, Option.map_some, Option.getD_some]
                exact ih hs hv
          · simp at h
        · simp at h
      | clo f a b =>
        simp only at h
        split at h
        · rename_i a' b' ha hb
          obtain rfl := Option.some.inj h
          obtain ⟨a1, a2⟩ := mapM_some _ ha
          obtain ⟨b1, b2⟩ := mapM_some _ hb
          cases hr with
          | clo hfl hcl hf hc =>
            refine .clo (hfl.trans a1.symm) (hcl.trans b1.symm) (fun i x hi => ?_) (fun i x hi => ?_)
            · obtain ⟨y, hy, hs⟩ := mapM_back _ ha hi
              exact ih hs (hf i y hy)
            · obtain ⟨y, hy, hs⟩ := mapM_back _ hb hi
              exact ih hs (hc i y hy)
        · simp at h
      | iface t v =>
        simp only [Option.map_eq_some_iff] at h
        obtain ⟨v1, h1, rfl⟩ := h
        cases hr with
        | iface hv ho =>
          refine .iface (ih h1 hv) ?_
          exact snapA_und h1 ho
      | agg cs =>
        simp only [Option.map_eq_some_iff] at h
        obtain ⟨cs', h1, rfl⟩ := h
        obtain ⟨a1, a2⟩ := mapM_some _ h1
        cases hr with
        | agg hl hc =>
          exact .agg (hl.trans a1.symm) fun i x hi => by
            obtain ⟨y, hy, hs⟩ := mapM_back _ h1 hi
            exact ih hs (hc i y hy)
      | tup cs =>
        simp only [Option.map_eq_some_iff] at h
        obtain ⟨cs', h1, rfl⟩ := h
        obtain ⟨a1, a2⟩ := mapM_some _ h1
        cases hr with
        | tup hl hc =>
          exact .tup (hl.trans a1.symm) fun i x hi => by
            obtain ⟨y, hy, hs⟩ := mapM_back _ h1 hi
            exact ih hs (hc i y hy)
      | _ => simp [AVal.names] at hp

end Go.Abs
