/- The abstract machine is sound: the theorem. -/
import Derived.Test.YtaiibojjndeipaaAbsDraw
set_option linter.all false
namespace Go.Abs
open Go

section
variable {P : Program}

/-! ### Freezing one object -/
open Classical in
noncomputable def addFrz (F : Frz) (b : Nat) (w : World) : Frz where
  cells b' off := if b' = b then w.cell? ⟨b', off, none⟩ else F.cells b' off
  maps r := if r = b then (match w.heap[r]? with | some (.map es _) => some (es.toList.map fun e => (e.key, e.val)) | _ => none) else F.maps r

theorem Inv.addFrz {F : Frz} {L : Lay} {σ : Sto} {w : World} (hI : Inv F L σ w) {b : Nat} (hb : ¬ Owns L b) (hnb : ∀ off, F.cells b off = none) (hnm : F.maps b = none) : Inv (addFrz F b w) L σ w ∧ F.Le (addFrz F b w) := by
  have hle : F.Le (Abs.addFrz F b w) := by
    constructor
    · intro b' o v h
      simp only [Abs.addFrz]
      split
      · rename_i e; subst e; rw [hnb] at h; simp at h
      · exact h
    · intro r kv h
      simp only [Abs.addFrz]
      split
      · rename_i e; subst e; rw [hnm] at h; simp at h
      · exact h
  refine ⟨⟨fun b' off v h => ?_, fun r kv h => ?_, fun o loc gen ho => ?_, hI.lt, hI.inj, fun b' hb' => ?_, hI.dd⟩, hle⟩
  · simp only [Abs.addFrz] at h
    split at h
    · exact h
    · exact hI.fz _ _ _ h
  · simp only [Abs.addFrz] at h
    split at h
    · split at h
      · rename_i es cl hw; exact ⟨es, cl, hw, Option.some.inj h⟩
      · simp at h
    · exact hI.fm _ _ h
  · obtain ⟨ob, h1, h2⟩ := hI.obj o loc gen ho
    exact ⟨ob, h1, h2.mono hle (Evo.refl L) fun _ _ => rfl⟩
  · have hne : b' ≠ b := by rintro rfl; exact hb hb'
    simp only [Abs.addFrz, if_neg hne]
    exact hI.sep b' hb'

theorem Full.upd {L : Lay} {σ σ' : Sto} (h : Full L σ) (hl : σ'.length = σ.length) {o : Nat} {s : Lst} (hs : s ≠ .un) : Full (updL L o s) σ' := by
  intro i hi
  by_cases e : i = o
  · subst e; rw [updL_same]; exact hs
  · rw [updL_ne _ _ e]; exact h i (by omega)

theorem LvOk.dead {lv : List Nat} {σ : Sto} (h : LvOk lv σ) (o : Nat) : LvOk lv (σ.set o .dead) := h.set (ob := .dead) (by intro l _ _; rfl)

/-- an object dies, and what it held is frozen -/
theorem CRel.freeze {F : Frz} {L : Lay} {lv : List Nat} {e : Env} {σ : Sto} {a : Act} {w : World} (h : CRel F L lv e σ a w) {o b gen : Nat} {loc : Loc} (hL : L o = .live loc gen) (hb : loc.block? = some b) :
    ∃ F', CRel F' (updL L o .dead) lv e (σ.set o .dead) a w ∧ Adv F L w F' (updL L o .dead) w ∧ (∀ off v, w.cell? ⟨b, off, none⟩ = some v → F'.cells b off = some v) ∧
      (∀ es cl, w.heap[b]? = some (.map es cl) → F'.maps b = some (es.toList.map fun e => (e.key, e.val))) := by
  have hlt : o < σ.length := h.inv.lt o (by rw [hL]; simp)
  obtain ⟨hI, hA⟩ := h.inv.kill (o := o) (σ' := σ.set o .dead) (by rw [hL]; simp) (by simp) (fun i _ hi => by rw [List.getElem?_set, if_neg (Ne.symm hi)]) (by simp [hlt])
  have hown : Owns L b := ⟨o, loc, gen, hL, hb⟩
  have hn : ¬ Owns (updL L o .dead) b := by
    rintro ⟨i, l, g, h1, h2⟩
    by_cases e : i = o
    · subst e; rw [updL_same] at h1; simp at h1
    · rw [updL_ne _ _ e] at h1; exact e (h.inv.inj _ _ _ _ _ _ b h1 hL h2 hb)
  obtain ⟨hs1, hs2⟩ := h.inv.sep b hown
  obtain ⟨hI', hle⟩ := hI.addFrz hn hs1 hs2
  refine ⟨Abs.addFrz F b w, ⟨h.env.mono hle hA.evo, h.defers, hI', h.full.upd (by simp) (by simp), h.lv.dead o⟩,
    ⟨hle, hA.evo, hA.os, hA.tape, hA.output, hA.size, hA.own, hA.keep, fun b' hb' hno => ?_⟩, fun off v hv => ?_, fun es cl hw => ?_⟩
  · have : b' ≠ b := by rintro rfl; exact hno hown
    exact ⟨fun off => by simp only [Abs.addFrz, if_neg this], by simp only [Abs.addFrz, if_neg this]⟩
  · simp only [Abs.addFrz, if_true]; exact hv
  · simp only [Abs.addFrz, if_true, hw]

theorem EnvRel.set {F : Frz} {L : Lay} {e : Env} {tmps : Array Value} (h : EnvRel F L e tmps) {t : Nat} {v : AVal} (hv : VRel F L v (tmps.getD t undef)) : EnvRel F L (e.set t v) tmps := by
  refine ⟨by simp [h.1], fun i u hu => ?_⟩
  rw [List.getElem?_set] at hu
  split at hu
  · rename_i e; subst e
    split at hu
    · obtain rfl := Option.some.inj hu; exact hv
    · simp at hu
  · exact h.2 i u hu

theorem EnvRel.get {F : Frz} {L : Lay} {e : Env} {tmps : Array Value} (h : EnvRel F L e tmps) (t : Nat) : VRel F L (e.getD t .und) (tmps.getD t undef) := by
  cases he : e[t]? with
  | none => simp only [List.getD_eq_getElem?_getD, he, Option.getD_none]; exact .und
  | some v => simp only [List.getD_eq_getElem?_getD, he, Option.getD_some]; exact h.2 t v he

/-- what is checked at the end of a 'trunc' -/
theorem CRel.level {F0 F : Frz} {L0 L : Lay} {lv : List Nat} {e : Env} {σ0 σ : Sto} {a : Act} {w0 w : World} (h : CRel F L lv e σ a w) (hF : Full L0 σ0) (hA : Adv F0 L0 w0 F L w)
    (hu : (σ.take σ0.length).all (AObj.under σ0.length) = true) : CRel F L (σ0.length :: lv) e σ a w := by
  refine ⟨h.env, h.defers, h.inv, h.full, fun l hl => ?_⟩
  rcases List.mem_cons.1 hl with rfl | hl
  · refine ⟨?_, fun o ob ho hob => ?_⟩
    · rcases Nat.eq_zero_or_pos σ0.length with h0 | h0
      · omega
      · have := h.inv.lt (σ0.length - 1) ((hA.evo _).ne_un (hF _ (by omega)))
        omega
    · refine List.all_eq_true.1 hu ob (List.mem_of_getElem? (i := o) ?_)
      rw [List.getElem?_take, if_pos ho]; exact hob
  · exact h.lv l hl

theorem AVal.names_mono {p q : Nat → Bool} (h : ∀ o, p o = true → q o = true) : ∀ (v : AVal), v.names p = true → v.names q = true := by
  intro v
  refine AVal.rec (motive_1 := fun v => v.names p = true → v.names q = true) (motive_2 := fun vs => AVal.namesL p vs = true → AVal.namesL q vs = true)
    ?_ ?_ ?_ ?_ ?_ ?_ ?_ ?_ ?_ ?_ ?_ ?_ ?_ ?_ ?_ ?_ ?_ ?_ ?_ ?_ ?_ ?_ v <;> intros <;> simp_all [AVal.names, AVal.namesL]

theorem names_of_pure {p : Nat → Bool} {v : AVal} (h : v.pure = true) : v.names p = true := AVal.names_mono (by simp) v h

def Low (L L' : Lay) : Prop := ∀ o loc gen, L' o = .live loc gen → L o = .live loc gen

theorem Low.refl (L : Lay) : Low L L := fun _ _ _ h => h
theorem Low.upd {L L' : Lay} (h : Low L L') (o : Nat) : Low L (updL L' o .dead) := by
  intro i loc gen hi
  by_cases e : i = o
  · subst e; rw [updL_same] at hi; simp at hi
  · rw [updL_ne _ _ e] at hi; exact h _ _ _ hi

/-- what a deep freezing does -/
structure Deep (F : Frz) (L : Lay) (lv : List Nat) (e : Env) (σ' : Sto) (a : Act) (w : World) (F' : Frz) (L' : Lay) : Prop where
  rel : CRel F' L' lv e σ' a w
  adv : Adv F L w F' L' w
  low : Low L L'

theorem CRel.liveAt {F : Frz} {L : Lay} {lv : List Nat} {e : Env} {σ : Sto} {a : Act} {w : World} (h : CRel F L lv e σ a w) {o : Nat} {ob : AObj} (hσ : σ[o]? = some ob) (hd : ob ≠ .dead) : ∃ loc g, L o = .live loc g := by
  have hlt : o < σ.length := (List.getElem?_eq_some_iff.1 hσ).1
  cases hL : L o with
  | un => exact absurd hL (h.full o hlt)
  | dead => have := h.inv.dd o hL; rw [hσ] at this; exact absurd (Option.some.inj this) hd
  | live loc g => exact ⟨loc, g, rfl⟩

theorem deepL_rel {f : Sto → AVal → Option (AVal × Sto)} {lv : List Nat} {e : Env} {a : Act} {w : World}
    (hf : ∀ {σ : Sto} {v v' : AVal} {σ' : Sto}, f σ v = some (v', σ') → ∀ {F : Frz} {L : Lay}, CRel F L lv e σ a w → ∀ {cv : Value}, VRel F L v cv → ∃ F' L', Deep F L lv e σ' a w F' L' ∧ VRel F' L' v' cv ∧ v'.pure = true ∧ (v.one = true → v'.one = true) ∧ (v ≠ .und → v' ≠ .und)) :
    ∀ (cs : List AVal) {σ : Sto} {cs' : List AVal} {σ' : Sto}, deepL f σ cs = some (cs', σ') → ∀ {F : Frz} {L : Lay}, CRel F L lv e σ a w → ∀ {g : Nat → Value}, (∀ (p : Nat) (x : AVal), cs[p]? = some x → VRel F L x (g p)) →
    ∃ F' L', Deep F L lv e σ' a w F' L' ∧ cs'.length = cs.length ∧ (∀ (p : Nat) (x : AVal), cs'[p]? = some x → VRel F' L' x (g p)) ∧ AVal.pures cs' = true ∧ ((∀ c ∈ cs, c.one = true) → ∀ c ∈ cs', c.one = true)
  | [], σ, cs', σ', h, F, L, hR, g, hg => by
    obtain ⟨rfl, rfl⟩ := Prod.mk.inj (Option.some.inj h)
    exact ⟨F, L, ⟨hR, Adv.refl F L w, fun _ _ _ h => h⟩, rfl, fun p x hx => by simp at hx, rfl, fun _ c hc => by simp at hc⟩
  | x :: xs, σ, cs', σ', h, F, L, hR, g, hg => by
    simp only [deepL] at h
    split at h
    case h_2 => simp at h
    rename_i x' σ1 hx
    split at h
    case h_2 => simp at h
    rename_i xs' σ2 hxs
    obtain ⟨rfl, rfl⟩ := Prod.mk.inj (Option.some.inj h)
    obtain ⟨F1, L1, hD1, hv1, hp1, ho1, _⟩ := hf hx hR (hg 0 x rfl)
    obtain ⟨F2, L2, hD2, hl2, hv2, hp2, ho2⟩ := deepL_rel hf xs hxs hD1.rel (g := fun p => g (p + 1)) fun p y hy => hD1.adv.rel (hg (p + 1) y (by simpa using hy))
    refine ⟨F2, L2, ⟨hD2.rel, hD1.adv.trans hD2.adv, fun o loc gen ho => hD1.low _ _ _ (hD2.low _ _ _ ho)⟩, by simp [hl2], fun p y hy => ?_, ?_, fun hone c hc => ?_⟩
    · cases p with
      | zero => simp at hy; subst hy; exact hD2.adv.rel hv1
      | succ p => exact hv2 p y (by simpa using hy)
    · simp only [AVal.pures, AVal.namesL, Bool.and_eq_true]; exact ⟨hp1, hp2⟩
    · rcases List.mem_cons.1 hc with rfl | hc
      · exact ho1 (hone x (by simp))
      · exact ho2 (fun c hc => hone c (by simp [hc])) c hc

theorem deep_rel {lv : List Nat} {e : Env} {a : Act} {w : World} : ∀ (n : Nat) {σ : Sto} {v v' : AVal} {σ' : Sto}, deepA n σ v = some (v', σ') → ∀ {F : Frz} {L : Lay}, CRel F L lv e σ a w → ∀ {cv : Value}, VRel F L v cv →
    ∃ F' L', Deep F L lv e σ' a w F' L' ∧ VRel F' L' v' cv ∧ v'.pure = true ∧ (v.one = true → v'.one = true) ∧ (v ≠ .und → v' ≠ .und)
  | 0, σ, v, v', σ', h, F, L, hR, cv, hv => by simp [deepA] at h
  | n + 1, σ, v, v', σ', h, F, L, hR, cv, hv => by
    have hL := @deepL_rel (deepA n) lv e a w (fun {σ v v' σ'} h {F L} hR {cv} hv => deep_rel n h hR hv)
    simp only [deepA] at h
    split at h
    · rename_i hp
      obtain ⟨rfl, rfl⟩ := Prod.mk.inj (Option.some.inj h)
      exact ⟨F, L, ⟨hR, Adv.refl F L w, fun _ _ _ h => h⟩, hv, hp, fun h => h, fun h => h⟩
    split at h
    · -- a slice
      rename_i o gen off len k _
      split at h
      case h_2 => simp at h
      rename_i nl cs hσ
      split at h
      case isFalse => simp at h
      rename_i hc
      obtain ⟨hgen, hle, hk⟩ := hc
      split at h
      case h_2 => simp at h
      rename_i cs' σ1 hd
      split at h
      case h_2 => simp at h
      rename_i nl1 cs1 hσ1
      obtain ⟨rfl, rfl⟩ := Prod.mk.inj (Option.some.inj h)
      obtain ⟨loc, g, hlive⟩ := hR.liveAt hσ (by simp)
      rcases hR.inv.readRef hv hσ hgen with ⟨rfl, rfl, rfl, rfl, rfl, hLo⟩ | ⟨b, top, c, elem, cap, rfl, hLo, hw, hlc, htop, hgc, hlen, hct, hcs, hone, hn, hrel⟩
      · obtain ⟨rfl, rfl⟩ := Prod.mk.inj (Option.some.inj hd)
        have hlt : o < σ.length := hR.inv.lt o (by rw [hLo]; simp)
        obtain ⟨hI, hA⟩ := hR.inv.kill (o := o) (σ' := σ.set o .dead) (by rw [hLo]; simp) (by simp) (fun i _ hi => by rw [List.getElem?_set, if_neg (Ne.symm hi)]) (by simp [hlt])
        exact ⟨F, updL L o .dead, ⟨⟨hR.env.mono hA.frz hA.evo, hR.defers, hI, hR.full.upd (by simp) (by simp), hR.lv.dead o⟩, hA, (Low.refl L).upd o⟩, .nils, rfl, fun _ => rfl, fun _ => by simp⟩
      · have hbr : (nl && cs.isEmpty) = false := by
          cases nl with
          | false => rfl
          | true => have := hn rfl; cases cs with
            | nil => exact absurd rfl this
            | cons _ _ => rfl
        rw [hbr]
        simp only [Bool.false_eq_true, if_false]
        obtain ⟨F1, L1, hD, hl1, hv1, hp1, ho1⟩ := hL cs hd hR (g := fun p => c.getD p undef) hrel
        obtain ⟨loc1, g1, hlive1⟩ := hD.rel.liveAt hσ1 (by simp)
        have := hD.low _ _ _ hlive1
        rw [hLo] at this
        injection this with e1 e2; subst e1; subst e2
        obtain ⟨F2, hR2, hA2, hfc, _⟩ := hD.rel.freeze hlive1 rfl
        refine ⟨F2, updL L1 o .dead, ⟨hR2, hD.adv.trans hA2, hD.low.upd o⟩, ?_, rfl, fun _ => rfl, fun _ => by simp⟩
        have hpure' := namesL_mem.1 hp1
        have hone1 := ho1 hone
        have hl' : ((cs'.drop off).take (len * k)).length = len * k := by rw [List.length_take, List.length_drop]; omega
        have hone' : ∀ c ∈ (cs'.drop off).take (len * k), c.one = true := fun c hc => hone1 c (List.mem_of_mem_drop (List.mem_of_mem_take hc))
        have hfl := chunk_flat k hk len _ hl' hone'
        have hget' : ∀ p c, (flatC (chunk k len ((cs'.drop off).take (len * k))))[p]? = some c → cs'[off + p]? = some c := by
          intro p c hp
          rw [hfl, List.getElem?_take] at hp
          split at hp
          · rwa [List.getElem?_drop] at hp
          · simp at hp
        have := VRel.list (F := F2) (L := updL L1 o .dead) (xs := chunk k len ((cs'.drop off).take (len * k))) (a := ⟨b, off, none⟩) (cap := cap) (k := k) (fv := fun p => c.getD (off + p) undef)
          (fun _ => rfl) (by rw [chunk_length]; omega) (chunk_cells k hk _ _ hl' hone')
          (fun p x hp => by
            have h1 := hget' p x hp
            have := (List.getElem?_eq_some_iff.1 h1).1
            exact hfc _ _ (World.cell_of_heap hw (p := off + p) (by omega)))
          (fun p x hp => hone1 x (List.mem_of_getElem? (hget' p x hp)))
          (fun p x hp => ((hv1 _ x (hget' p x hp)).toPure (hpure' x (List.mem_of_getElem? (hget' p x hp))) noL).frz hA2.frz)
        rwa [chunk_length] at this
    · -- a pointer
      rename_i o gen off _
      split at h
      case h_2 => simp at h
      rename_i nl cs hσ
      split at h
      case isFalse => simp at h
      rename_i hgen
      split at h
      case h_2 => simp at h
      rename_i cs' σ1 hd
      split at h
      case h_2 => simp at h
      rename_i nl1 cs1 hσ1
      obtain ⟨rfl, rfl⟩ := Prod.mk.inj (Option.some.inj h)
      obtain ⟨b, top, c, elem, rfl, hLo, hw, hct, hcs, hone, hn, hrel⟩ := hR.inv.readPtr hv hσ hgen
      obtain ⟨F1, L1, hD, hl1, hv1, hp1, ho1⟩ := hL cs hd hR (g := fun p => c.getD p undef) hrel
      obtain ⟨loc1, g1, hlive1⟩ := hD.rel.liveAt hσ1 (by simp)
      have := hD.low _ _ _ hlive1
      rw [hLo] at this
      injection this with e1 e2; subst e1; subst e2
      obtain ⟨F2, hR2, hA2, hfc, _⟩ := hD.rel.freeze hlive1 rfl
      refine ⟨F2, updL L1 o .dead, ⟨hR2, hD.adv.trans hA2, hD.low.upd o⟩, ?_, rfl, fun _ => rfl, fun _ => by simp⟩
      have hpure' := namesL_mem.1 hp1
      have hone1 := ho1 hone
      have hget' : ∀ (p : Nat) (c : AVal), (cs'.drop off)[p]? = some c → cs'[off + p]? = some c := by intro p c hp; rwa [List.getElem?_drop] at hp
      exact VRel.fptr (fv := fun p => c.getD (off + p) undef) rfl
        (fun p x hp => by
          have h1 := hget' p x hp
          have := (List.getElem?_eq_some_iff.1 h1).1
          exact hfc _ _ (World.cell_of_heap hw (p := off + p) (by omega)))
        (fun p x hp => hone1 x (List.mem_of_getElem? (hget' p x hp)))
        (fun p x hp => ((hv1 _ x (hget' p x hp)).toPure (hpure' x (List.mem_of_getElem? (hget' p x hp))) noL).frz hA2.frz)
    · -- a closure
      rename_i f fs cs _
      split at h
      case h_2 => simp at h
      rename_i fs' σ1 hd1
      split at h
      case h_2 => simp at h
      rename_i cs' σ2 hd2
      obtain ⟨rfl, rfl⟩ := Prod.mk.inj (Option.some.inj h)
      cases hv with
      | @clo _ _ _ _ fa ca hfl hcl hf hc =>
        obtain ⟨F1, L1, hD1, hl1, hv1, hp1, _⟩ := hL fs hd1 hR (g := fun p => fa.getD p undef) hf
        obtain ⟨F2, L2, hD2, hl2, hv2, hp2, _⟩ := hL cs hd2 hD1.rel (g := fun p => ca.getD p undef) fun p x hx => hD1.adv.rel (hc p x hx)
        refine ⟨F2, L2, ⟨hD2.rel, hD1.adv.trans hD2.adv, fun o loc gen ho => hD1.low _ _ _ (hD2.low _ _ _ ho)⟩, .clo (by omega) (by omega) (fun i c hi => hD2.adv.rel (hv1 i c hi)) hv2, ?_, fun _ => rfl, fun _ => by simp⟩
        simp only [AVal.pure, AVal.names, Bool.and_eq_true]; exact ⟨hp1, hp2⟩
    · -- an aggregate
      rename_i cs _
      split at h
      case h_2 => simp at h
      rename_i cs' σ1 hd1
      obtain ⟨rfl, rfl⟩ := Prod.mk.inj (Option.some.inj h)
      cases hv with
      | @agg _ _ ca hl hc =>
        obtain ⟨F1, L1, hD1, hl1, hv1, hp1, _⟩ := hL cs hd1 hR (g := fun p => ca.getD p undef) hc
        exact ⟨F1, L1, hD1, .agg (by omega) hv1, by simpa only [AVal.pure, AVal.names] using hp1, fun h => by simp [AVal.one] at h, fun _ => by simp⟩
    · -- a tuple
      rename_i cs _
      split at h
      case h_2 => simp at h
      rename_i cs' σ1 hd1
      obtain ⟨rfl, rfl⟩ := Prod.mk.inj (Option.some.inj h)
      cases hv with
      | @tup _ _ ca hl hc =>
        obtain ⟨F1, L1, hD1, hl1, hv1, hp1, _⟩ := hL cs hd1 hR (g := fun p => ca.getD p undef) hc
        exact ⟨F1, L1, hD1, .tup (by omega) hv1, by simpa only [AVal.pure, AVal.names] using hp1, fun h => by simp [AVal.one] at h, fun _ => by simp⟩
    · -- a map
      rename_i o _
      split at h
      case h_2 => simp at h
      rename_i ks vs hσ
      split at h
      case isFalse => simp at h
      rename_i hpk
      split at h
      case h_2 => simp at h
      rename_i vs' σ1 hd
      split at h
      case h_2 => simp at h
      rename_i ks1 vs1 hσ1
      obtain ⟨rfl, rfl⟩ := Prod.mk.inj (Option.some.inj h)
      obtain ⟨r, es, cl, rfl, hLo, hw, hent⟩ := hR.inv.readMap hv hσ
      obtain ⟨F1, L1, hD, hl1, hv1, hp1, _⟩ := hL vs hd hR (g := fun p => ((es.toList[p]?).map (·.val)).getD undef) fun p x hx => by
        obtain ⟨m, h1, h2⟩ := hent.2.2.2 p x hx
        simp only [h1, Option.map_some, Option.getD_some]; exact h2
      obtain ⟨loc1, g1, hlive1⟩ := hD.rel.liveAt hσ1 (by simp)
      have := hD.low _ _ _ hlive1
      rw [hLo] at this
      injection this with e1 e2; subst e1; subst e2
      obtain ⟨F2, hR2, hA2, _, hfm⟩ := hD.rel.freeze hlive1 rfl
      refine ⟨F2, updL L1 o .dead, ⟨hR2, hD.adv.trans hA2, hD.low.upd o⟩, ?_, rfl, fun _ => rfl, fun _ => by simp⟩
      have hp2 := namesL_mem.1 hpk
      have hp3 := namesL_mem.1 hp1
      have hlv : es.toList.length = vs.length := hent.2.1
      refine VRel.fmap (hfm es cl hw) (by simpa using hent.1) (by simp only [List.length_map]; omega) (fun i c hc' => ?_) (fun i c hc' => ?_)
      · obtain ⟨m, h1, h2⟩ := hent.2.2.1 i c hc'
        simp only [List.getD_eq_getElem?_getD, List.getElem?_map, h1, Option.map_some, Option.getD_some]
        exact (h2.toPure (hp2 c (List.mem_of_getElem? hc')) noL).frz (hD.adv.trans hA2).frz
      · have hi : i < es.toList.length := by have := (List.getElem?_eq_some_iff.1 hc').1; omega
        have h2 := hv1 i c hc'
        simp only [List.getElem?_eq_getElem hi, Option.map_some, Option.getD_some] at h2
        simp only [List.getD_eq_getElem?_getD, List.getElem?_map, List.getElem?_eq_getElem hi, Option.map_some, Option.getD_some]
        exact (h2.toPure (hp3 c (List.mem_of_getElem? hc')) noL).frz hA2.frz
    · simp at h

/-- the cells of an object read otherwise, and stand to the same values -/
theorem CRel.recells {F : Frz} {L : Lay} {lv : List Nat} {e : Env} {σ : Sto} {a : Act} {w : World} (h : CRel F L lv e σ a w) {o : Nat} {nl nl0 : Bool} {cs cs' : List AVal} (hσ : σ[o]? = some (.cells nl0 cs)) (hlen : cs'.length = cs.length) (hone : ∀ c ∈ cs', c.one = true) (hpure : AVal.pures cs' = true) (hnl : nl = nl0)
    (hv : ∀ b top gen c elem, L o = .live (.blk b top) gen → w.heap[b]? = some (.cells c elem (0, 0)) → ∀ (p : Nat) (x : AVal), cs'[p]? = some x → VRel F L x (c.getD p undef)) : CRel F L lv e (σ.set o (.cells nl cs')) a w := by
  subst hnl
  have hlt : o < σ.length := (List.getElem?_eq_some_iff.1 hσ).1
  refine ⟨h.env, h.defers, ⟨h.inv.fz, h.inv.fm, fun i loc gen hi => ?_, fun i hi => by simpa using h.inv.lt i hi, h.inv.inj, h.inv.sep, fun i hi => ?_⟩, fun i hi => h.full i (by simpa using hi), ?_⟩
  · obtain ⟨ob, h1, h2⟩ := h.inv.obj i loc gen hi
    by_cases hio : i = o
    · subst hio
      rw [hσ] at h1
      obtain rfl := Option.some.inj h1
      refine ⟨.cells nl cs', by simp [hlt], ?_⟩
      obtain ⟨h3, h4, h5⟩ := h2
      refine ⟨by omega, hone, ?_⟩
      cases loc with
      | blk b top =>
        obtain ⟨h6, c, elem, h7, h8, h9, hx⟩ := h5
        exact ⟨fun hn => by have := h6 hn; intro he; subst he; exact this (List.eq_nil_of_length_eq_zero (by simpa using hlen.symm)), c, elem, h7, h8, by omega, hv _ _ _ _ _ hi h7⟩
      | nil => obtain ⟨h6, rfl⟩ := h5; exact ⟨h6, List.eq_nil_of_length_eq_zero (by simpa using hlen)⟩
      | mp r => exact h5
    · exact ⟨ob, by rw [List.getElem?_set, if_neg (Ne.symm hio)]; exact h1, h2⟩
  · have := h.inv.dd i hi
    by_cases hio : i = o
    · subst hio; rw [hσ] at this; simp at this
    · rw [List.getElem?_set, if_neg (Ne.symm hio)]; exact this
  · refine h.lv.setCells hσ fun l hl ho _ => ?_
    have hp := namesL_mem.1 hpure
    exact namesL_mem.2 fun x hx => names_of_pure (hp x hx)

/-- an object that has not died is what it was -/
def Kept (σ σ' : Sto) : Prop := ∀ (o : Nat) (ob : AObj), σ'[o]? = some ob → ob = AObj.dead ∨ σ[o]? = some ob
theorem Kept.refl (σ : Sto) : Kept σ σ := fun _ _ h => .inr h
theorem Kept.trans {a b c : Sto} (h : Kept a b) (k : Kept b c) : Kept a c := fun o ob ho => by
  rcases k o ob ho with h' | h'
  · exact .inl h'
  · exact h o ob h'
theorem Kept.dead {σ σ' : Sto} (h : Kept σ σ') (o : Nat) : Kept σ (σ'.set o .dead) := fun i ob hi => by
  rw [List.getElem?_set] at hi
  split at hi
  · split at hi
    · exact .inl (Option.some.inj hi).symm
    · simp at hi
  · exact h i ob hi

theorem deepL_kept {f : Sto → AVal → Option (AVal × Sto)} (hf : ∀ {σ v v' σ'}, f σ v = some (v', σ') → Kept σ σ') : ∀ (cs : List AVal) {σ : Sto} {cs' : List AVal} {σ' : Sto}, deepL f σ cs = some (cs', σ') → Kept σ σ'
  | [], σ, cs', σ', h => by obtain ⟨_, rfl⟩ := Prod.mk.inj (Option.some.inj h); exact Kept.refl _
  | x :: xs, σ, cs', σ', h => by
    simp only [deepL] at h
    split at h
    case h_2 => simp at h
    rename_i x' σ1 hx
    split at h
    case h_2 => simp at h
    rename_i xs' σ2 hxs
    obtain ⟨_, rfl⟩ := Prod.mk.inj (Option.some.inj h)
    exact (hf hx).trans (deepL_kept hf xs hxs)

theorem deepA_kept : ∀ (n : Nat) {σ : Sto} {v v' : AVal} {σ' : Sto}, deepA n σ v = some (v', σ') → Kept σ σ'
  | 0, σ, v, v', σ', h => by simp [deepA] at h
  | n + 1, σ, v, v', σ', h => by
    have hL := @deepL_kept (deepA n) (fun {σ v v' σ'} h => deepA_kept n h)
    simp only [deepA] at h
    repeat' split at h
    all_goals first
      | (simp at h; done)
      | (obtain ⟨_, rfl⟩ := Prod.mk.inj (Option.some.inj h); first | exact Kept.refl _ | exact (hL _ (by assumption)).dead _ | exact hL _ (by assumption) | exact (hL _ (by assumption)).trans (hL _ (by assumption)))

theorem deepL_nl {n : Nat} {σ σ1 : Sto} {cs cs' : List AVal} (hd : deepL (deepA n) σ cs = some (cs', σ1)) {o : Nat} {nl nl1 : Bool} {xs ys : List AVal} (hσ : σ[o]? = some (.cells nl xs)) (hσ1 : σ1[o]? = some (.cells nl1 ys)) : nl = nl1 := by
  rcases deepL_kept (fun {σ v v' σ'} h => deepA_kept n h) cs hd o _ hσ1 with h | h
  · simp at h
  · rw [hσ] at h; injection h with h; injection h

theorem ghost_rel {F : Frz} {L : Lay} {lv : List Nat} {e : Env} {σ : Sto} {a : Act} {w : World} (h : CRel F L lv e σ a w) {g : Ghost} {e' : Env} {σ' : Sto} (hg : ghostA g e σ = some (e', σ')) :
    ∃ F' L', CRel F' L' lv e' σ' a w ∧ Adv F L w F' L' w := by
  cases g with
  | kill ts =>
    obtain ⟨rfl, rfl⟩ := Prod.mk.inj (Option.some.inj hg)
    refine ⟨F, L, ⟨?_, h.defers, h.inv, h.full, h.lv⟩, Adv.refl F L w⟩
    have : ∀ (ts : List Nat) (e : Env), EnvRel F L e a.tmps → EnvRel F L (ts.foldl (fun e t => e.set t .und) e) a.tmps := by
      intro ts
      induction ts with
      | nil => intro e he; exact he
      | cons t ts ih => intro e he; exact ih _ (he.set .und)
    exact this ts e h.env
  | freeze t =>
    have hget := h.env.get t
    simp only [ghostA] at hg
    split at hg
    · rename_i o gen off len k hv
      rw [hv] at hget
      split at hg
      case h_2 => simp at hg
      rename_i nl cs hσ
      split at hg
      case isFalse => simp at hg
      rename_i hc
      obtain ⟨hgen, hle, hk, hpure⟩ := hc
      obtain ⟨rfl, rfl⟩ := Prod.mk.inj (Option.some.inj hg)
      generalize hcv : a.tmps.getD t undef = cv at hget
      rcases h.inv.readRef hget hσ hgen with ⟨rfl, rfl, rfl, rfl, rfl, hL⟩ | ⟨b, top, c, elem, cap, rfl, hL, hw, hlc, htop, hgc, hlen, hct, hcs, hone, hn, hrel⟩
      · have hlt : o < σ.length := h.inv.lt o (by rw [hL]; simp)
        obtain ⟨hI, hA⟩ := h.inv.kill (o := o) (σ' := σ.set o .dead) (by rw [hL]; simp) (by simp) (fun i _ hi => by rw [List.getElem?_set, if_neg (Ne.symm hi)]) (by simp [hlt])
        refine ⟨F, updL L o .dead, ⟨(h.env.mono hA.frz hA.evo).set (by rw [hcv]; exact .nils), h.defers, hI, h.full.upd (by simp) (by simp), h.lv.dead o⟩, hA⟩
      · have hbr : (nl && cs.isEmpty) = false := by
          cases nl with
          | false => rfl
          | true => have := hn rfl; cases cs with
            | nil => exact absurd rfl this
            | cons _ _ => rfl
        rw [hbr]
        simp only [Bool.false_eq_true, if_false]
        obtain ⟨F', hR, hA, hfc, _⟩ := h.freeze hL rfl
        refine ⟨F', updL L o .dead, ⟨hR.env.set ?_, hR.defers, hR.inv, hR.full, hR.lv⟩, hA⟩
        rw [hcv]
        have hpure' := namesL_mem.1 hpure
        have hl' : ((cs.drop off).take (len * k)).length = len * k := by rw [List.length_take, List.length_drop]; omega
        have hone' : ∀ c ∈ (cs.drop off).take (len * k), c.one = true := fun c hc => hone c (List.mem_of_mem_drop (List.mem_of_mem_take hc))
        have hfl := chunk_flat k hk len _ hl' hone'
        have hget' : ∀ p c, (flatC (chunk k len ((cs.drop off).take (len * k))))[p]? = some c → cs[off + p]? = some c := by
          intro p c hp
          rw [hfl, List.getElem?_take] at hp
          split at hp
          · rwa [List.getElem?_drop] at hp
          · simp at hp
        have := VRel.list (F := F') (L := updL L o .dead) (xs := chunk k len ((cs.drop off).take (len * k))) (a := ⟨b, off, none⟩) (cap := cap) (k := k) (fv := fun p => c.getD (off + p) undef)
          (fun _ => rfl) (by rw [chunk_length]; omega) (chunk_cells k hk _ _ hl' hone')
          (fun p x hp => by
            have h1 := hget' p x hp
            have := (List.getElem?_eq_some_iff.1 h1).1
            exact hfc _ _ (World.cell_of_heap hw (p := off + p) (by omega)))
          (fun p x hp => hone x (List.mem_of_getElem? (hget' p x hp)))
          (fun p x hp => ((hrel _ x (hget' p x hp)).toPure (hpure' x (List.mem_of_getElem? (hget' p x hp))) noL).frz hA.frz)
        rwa [chunk_length] at this
    · rename_i o gen off hv
      rw [hv] at hget
      split at hg
      case h_2 => simp at hg
      rename_i nl cs hσ
      split at hg
      case isFalse => simp at hg
      rename_i hc
      obtain ⟨hgen, hpure⟩ := hc
      obtain ⟨rfl, rfl⟩ := Prod.mk.inj (Option.some.inj hg)
      generalize hcv : a.tmps.getD t undef = cv at hget
      obtain ⟨b, top, c, elem, rfl, hL, hw, hct, hcs, hone, hn, hrel⟩ := h.inv.readPtr hget hσ hgen
      obtain ⟨F', hR, hA, hfc, _⟩ := h.freeze hL rfl
      refine ⟨F', updL L o .dead, ⟨hR.env.set ?_, hR.defers, hR.inv, hR.full, hR.lv⟩, hA⟩
      rw [hcv]
      have hpure' := namesL_mem.1 hpure
      have hget' : ∀ (p : Nat) (c : AVal), (cs.drop off)[p]? = some c → cs[off + p]? = some c := by intro p c hp; rwa [List.getElem?_drop] at hp
      exact VRel.fptr (fv := fun p => c.getD (off + p) undef) rfl
        (fun p x hp => by
          have h1 := hget' p x hp
          have := (List.getElem?_eq_some_iff.1 h1).1
          exact hfc _ _ (World.cell_of_heap hw (p := off + p) (by omega)))
        (fun p x hp => hone x (List.mem_of_getElem? (hget' p x hp)))
        (fun p x hp => ((hrel _ x (hget' p x hp)).toPure (hpure' x (List.mem_of_getElem? (hget' p x hp))) noL).frz hA.frz)
    · rename_i o hv
      rw [hv] at hget
      split at hg
      case h_2 => simp at hg
      rename_i ks vs hσ
      split at hg
      case isFalse => simp at hg
      rename_i hc
      obtain ⟨rfl, rfl⟩ := Prod.mk.inj (Option.some.inj hg)
      generalize hcv : a.tmps.getD t undef = cv at hget
      obtain ⟨r, es, cl, rfl, hL, hw, hent⟩ := h.inv.readMap hget hσ
      obtain ⟨F', hR, hA, _, hfm⟩ := h.freeze hL rfl
      refine ⟨F', updL L o .dead, ⟨hR.env.set ?_, hR.defers, hR.inv, hR.full, hR.lv⟩, hA⟩
      rw [hcv]
      have hp1 := namesL_mem.1 hc.1
      have hp2 := namesL_mem.1 hc.2
      refine VRel.fmap (hfm es cl hw) (by simpa using hent.1) (by simpa using hent.2.1) (fun i c hc' => ?_) (fun i c hc' => ?_)
      · obtain ⟨m, h1, h2⟩ := hent.2.2.1 i c hc'
        simp only [List.getD_eq_getElem?_getD, List.getElem?_map, h1, Option.map_some, Option.getD_some]
        exact (h2.toPure (hp1 c (List.mem_of_getElem? hc')) noL).frz hA.frz
      · obtain ⟨m, h1, h2⟩ := hent.2.2.2 i c hc'
        simp only [List.getD_eq_getElem?_getD, List.getElem?_map, h1, Option.map_some, Option.getD_some]
        exact (h2.toPure (hp2 c (List.mem_of_getElem? hc')) noL).frz hA.frz
    · split at hg
      · obtain ⟨rfl, rfl⟩ := Prod.mk.inj (Option.some.inj hg)
        exact ⟨F, L, h, Adv.refl F L w⟩
      · simp at hg
  | dfreeze t =>
    have hget := h.env.get t
    simp only [ghostA] at hg
    split at hg
    case h_2 => simp at hg
    rename_i v σ1 hd
    obtain ⟨rfl, rfl⟩ := Prod.mk.inj (Option.some.inj hg)
    obtain ⟨F', L', hD, hv, _⟩ := deep_rel snapDepth hd h hget
    exact ⟨F', L', ⟨hD.rel.env.set hv, hD.rel.defers, hD.rel.inv, hD.rel.full, hD.rel.lv⟩, hD.adv⟩
  | inner t =>
    have key : ∀ {o gen : Nat} {nl : Bool} {cs : List AVal}, σ[o]? = some (.cells nl cs) → cs.length = gen → ∀ {cs' : List AVal} {σ1 : Sto}, deepL (deepA snapDepth) σ cs = some (cs', σ1) → ∀ {nl1 : Bool} {cs1 : List AVal}, σ1[o]? = some (.cells nl1 cs1) →
        ∃ F' L', CRel F' L' lv e (σ1.set o (.cells nl cs')) a w ∧ Adv F L w F' L' w := by
      intro o gen nl cs hσ hgen cs' σ1 hd nl1 cs1 hσ1
      obtain ⟨loc, g, hL⟩ := h.liveAt hσ (by simp)
      obtain ⟨ob, h1, h2⟩ := h.inv.obj o loc g hL
      rw [hσ] at h1
      obtain rfl := Option.some.inj h1
      obtain ⟨k1, k2, k3⟩ := h2
      have fin : ∀ {F' : Frz} {L' : Lay} (c : Array Value), Deep F L lv e σ1 a w F' L' → cs'.length = cs.length → AVal.pures cs' = true → (∀ x ∈ cs', x.one = true) → (∀ b top gen c' elem, L o = .live (.blk b top) gen → w.heap[b]? = some (.cells c' elem (0, 0)) → ∀ (p : Nat) (x : AVal), cs'[p]? = some x → VRel F' L' x (c'.getD p undef)) →
          ∃ F' L', CRel F' L' lv e (σ1.set o (.cells nl cs')) a w ∧ Adv F L w F' L' w := by
        intro F' L' c hD hl hp ho hv
        obtain ⟨loc1, g1, hlive1⟩ := hD.rel.liveAt hσ1 (by simp)
        obtain ⟨ob1, j1, j2⟩ := hD.rel.inv.obj o loc1 g1 hlive1
        rw [hσ1] at j1
        obtain rfl := Option.some.inj j1
        have hsame := hD.low _ _ _ hlive1
        rw [hL] at hsame
        injection hsame with e1 e2; subst e1; subst e2
        have hlen1 : cs1.length = cs.length := by have := j2.1; omega
        -- the mark of an empty slice stays
        have hl1 : nl = nl1 ∨ cs' = cs' := .inr rfl
        refine ⟨F', L', ?_, hD.adv⟩
        have hw2 : nl = nl1 → CRel F' L' lv e (σ1.set o (.cells nl cs')) a w := fun hn => hD.rel.recells hσ1 (by omega) ho hp hn fun b top gen c elem hl hw => hv b top gen c elem (hD.low _ _ _ hl) hw
        exact hw2 (deepL_nl hd hσ hσ1)
      cases loc with
      | mp r => exact k3.elim
      | nil =>
        obtain ⟨_, rfl⟩ := k3
        obtain ⟨rfl, rfl⟩ := Prod.mk.inj (Option.some.inj hd)
        exact fin #[] ⟨h, Adv.refl F L w, fun _ _ _ h => h⟩ rfl rfl (fun x hx => by simp at hx) fun _ _ _ _ _ _ _ p x hx => by simp at hx
      | blk b top =>
        obtain ⟨k4, c, elem, k5, k6, k7, k8⟩ := k3
        obtain ⟨F1, L1, hD, hl1, hv1, hp1, ho1⟩ := deepL_rel (fun {σ v v' σ'} h {F L} hR {cv} hv => deep_rel snapDepth h hR hv) cs hd h (g := fun p => c.getD p undef) k8
        refine fin c hD hl1 hp1 (ho1 k2) fun b' top' gen' c' elem' hl' hw' p x hx => ?_
        rw [hL] at hl'
        injection hl' with e1 e2; injection e1 with e3 e4
        subst e3
        rw [k5] at hw'
        injection hw' with hw'; injection hw' with e5
        subst e5
        exact hv1 p x hx
    simp only [ghostA] at hg
    repeat' split at hg
    all_goals first
      | (simp at hg; done)
      | skip
    all_goals
      obtain ⟨rfl, rfl⟩ := Prod.mk.inj (Option.some.inj hg)
      exact key (by assumption) (by assumption) (by assumption) (by assumption)
  | nilref t k =>
    have hget := h.env.get t
    simp only [ghostA] at hg
    split at hg
    case h_2 => simp at hg
    rename_i hv
    rw [hv] at hget
    obtain ⟨rfl, rfl⟩ := Prod.mk.inj (Option.some.inj hg)
    have hun := h.inv.unFresh (Nat.le_refl σ.length)
    have := h.inv.change (o := σ.length) (loc := .nil) (gen := 0) (ob := .cells true []) (σ' := σ ++ [.cells true []]) (w' := w) (by simp) (fun i hi _ => List.getElem?_append_left hi) (by simp)
      (by rw [hun]; trivial) rfl rfl rfl (Nat.le_refl _) (fun b hb => by simp [Loc.block?] at hb) (fun _ _ _ => rfl) ⟨rfl, fun c hc => by simp at hc, rfl, rfl⟩
    refine ⟨F, _, ⟨(h.env.mono this.2.frz this.2.evo).set ?_, h.defers, this.1, fun i hi => ?_, h.lv.append _⟩, this.2⟩
    · generalize a.tmps.getD t undef = q at hget
      cases hget
      refine .ref (by rw [updL_same]; simp) ⟨_, _, _, rfl⟩ (fun loc g hl => by rw [updL_same] at hl; injection hl with _ e; omega) (fun loc hl => ?_)
      rw [updL_same] at hl; injection hl with e1 e2; subst e1
      exact ⟨rfl, rfl, rfl⟩
    · by_cases e : i = σ.length
      · subst e; rw [updL_same]; simp
      · rw [updL_ne _ _ e]; exact h.full i (by simp at hi; omega)

/-! ### Code -/
theorem Adv.postC {F F' : Frz} {L L' : Lay} {w w' : World} (hA : Adv F L w F' L' w') {lv : List Nat} {Q : Post3} {x : Exit} {a : Act} {w'' : World} (h : PostC F' L' w' lv Q x a w'') : PostC F L w lv Q x a w'' := by
  obtain ⟨x', e', σ', F2, L2, h1, h2, h3, h4⟩ := h
  exact ⟨x', e', σ', F2, L2, h1, h2, h3, hA.trans h4⟩

theorem cond_eval {F : Frz} {L : Lay} {e : Env} {a : Act} (h : EnvRel F L e a.tmps) {c : Operand} {c' : Opd} (hc : opdA c = some c') {t : Bool} (ht : ev e c' = .bool t) : a.eval c = .bool t := by
  have := h.reads c c' hc
  rw [ht] at this
  generalize a.eval c = q at this
  cases this; rfl

/-- a region with marks, whose order is the text's -/
theorem gops_sound {cw : CallW} (hC : CallsOk P cw) (hP : PureOk P cw) {lv : List Nat} {ops : Array Oper} {Q : Exit → Act → World → Prop} : ∀ (aos : List GOp) (os : List Oper), os.mapM (cOper P ops) = some ((aos.filterMap GOp.oper?).map AOper.strip) →
    ∀ {e : Env} {σ : Sto} {K : Env → Sto → Prop}, wpGOps cw lv aos e σ K → ∀ {F : Frz} {L : Lay} {a : Act} {w : World}, CRel F L lv e σ a w →
    (∀ e' σ' F' L' a' w', K e' σ' → CRel F' L' lv e' σ' a' w' → Adv F L w F' L' w' → Q .normal a' w') → wpList P ops Q os a w
  | [], [], _, e, σ, K, h, F, L, a, w, hR, hK => hK _ _ _ _ _ _ h hR (Adv.refl F L w)
  | [], o :: os, hm, e, σ, K, h, F, L, a, w, hR, hK => by
    have := (mapM_some _ hm).1; simp at this
  | .gh g :: aos, os, hm, e, σ, K, h, F, L, a, w, hR, hK => by
    simp only [wpGOps] at h
    split at h
    case h_2 => exact h.elim
    rename_i e' σ' hgh
    obtain ⟨F', L', hR', hA⟩ := ghost_rel hR hgh
    exact gops_sound hC hP aos os (by simpa only [List.filterMap_cons, GOp.oper?] using hm) h hR' fun e'' σ'' F'' L'' a'' w'' hk hR'' hA' => hK _ _ _ _ _ _ hk hR'' (hA.trans hA')
  | .op ao :: aos, [], hm, e, σ, K, h, F, L, a, w, hR, hK => by simp [GOp.oper?] at hm
  | .op ao :: aos, o :: os, hm, e, σ, K, h, F, L, a, w, hR, hK => by
    simp only [List.filterMap_cons, GOp.oper?] at hm
    simp only [List.mapM_cons, List.map_cons, Option.pure_def, Option.bind_eq_bind, Option.bind_eq_some_iff] at hm
    obtain ⟨x, hx, xs, hxs, heq⟩ := hm
    obtain ⟨rfl, rfl⟩ := List.cons.inj (Option.some.inj heq)
    simp only [cOper, Option.some.injEq] at hx
    have e1 : (cOp P o).getD .unsup = ao.op.strip := congrArg AOper.op hx
    have e2 : ao.dst = o.dst := (congrArg AOper.dst hx).symm
    have e3 : ao.guard = o.guard.map fun (j, want) => ((ops[j]?).bind (·.dst), want) := (congrArg AOper.guard hx).symm
    simp only [wpGOps, wpOpsA] at h
    unfold wpList
    split at h
    · rename_i hw
      rw [wanted_sound hR.env e3 hw, if_pos rfl]
      refine .inl (oper_sound hC hP (cOp_of e1 (wpOper_sup h)) e2 h hR fun e' σ' F' L' a' w' hq hR' hA => ?_)
      exact gops_sound hC hP aos os hxs hq hR' fun e'' σ'' F'' L'' a'' w'' hk hR'' hA' => hK _ _ _ _ _ _ hk hR'' (hA.trans hA')
    · rename_i hw
      rw [wanted_sound hR.env e3 hw, if_neg (by simp)]
      refine gops_sound hC hP aos os hxs h ⟨by rw [e2]; exact hR.env.put skipped_rel, by have := hR.defers; cases o.dst <;> simpa [Act.put] using this, hR.inv, hR.full, hR.lv⟩ hK
    · exact h.elim

theorem code_sound (hmix : P.follows .mixedOrders = true) {cw : CallW} (hD : Det cw) (hC : CallsOk P cw) (hP : PureOk P cw) {n : Nat} : ∀ (c : ACode) {code : Code}, cCode P code = some c.strip → c.plan = true → ∀ {lv : List Nat} {e : Env} {σ : Sto} {Q : Post3}, wpCode cw n lv c e σ Q →
    ∀ {F : Frz} {L : Lay} {a : Act} {w : World}, CRel F L lv e σ a w → code.wp P (PostC F L w lv Q) a w := by
  intro c
  induction c with
  | skip =>
    intro code hc hpl lv e σ Q h F L a w hR
    cases code <;> simp only [cCode, ACode.strip, reduceCtorEq, Option.map_eq_some_iff, and_false, exists_false] at hc
    case skip => exact wp_skip ⟨.normal, e, σ, F, L, trivial, h, hR, Adv.refl F L w⟩
    case label => exact wp_label ⟨.normal, e, σ, F, L, trivial, h, hR, Adv.refl F L w⟩
    all_goals first | (repeat' split at hc) <;> (simp at hc; done) | (rename_i dr; cases dr <;> simp [cCode] at hc; done)
  | region d ops =>
    intro code hc hpl lv e σ Q h F L a w hR
    cases code <;> simp only [cCode, ACode.strip, reduceCtorEq, Option.map_eq_some_iff, and_false, exists_false] at hc
    case region id os dr =>
      cases dr with
      | false =>
        simp only [cCode, Option.map_eq_some_iff, ACode.region.injEq] at hc
        obtain ⟨aos, hm, rfl, rfl⟩ := hc
        exact wp_region_list (ops_sound hC hP _ _ hm h hR fun e' σ' F' L' a' w' hq hR' hA => ⟨.normal, e', σ', F', L', trivial, hq, hR', hA⟩)
      | true =>
        simp only [cCode, Option.map_eq_some_iff, ACode.region.injEq] at hc
        obtain ⟨aos, hm, rfl, rfl⟩ := hc
        have hlen := (mapM_some _ hm).1
        refine draw_sound hD hC hP hmix (by simpa using hlen.symm) (fun i ao hi => ?_) (by simpa [ACode.plan] using hpl) h hR fun e' σ' F' L' a' w' hq hR' hA => ⟨.normal, e', σ', F', L', trivial, hq, hR', hA⟩
        obtain ⟨o, ho, hx⟩ := mapM_back _ hm (show (ops.map AOper.strip)[i]? = some ao.strip by simp [hi])
        simp only [cOperD, cOper, Option.map_some, Option.some.injEq] at hx
        exact ⟨o, by simpa using ho, ⟨congrArg AOper.op hx, (congrArg AOper.dst hx).symm, (congrArg AOper.guard hx).symm, (congrArg AOper.after hx).symm, (congrArg AOper.reads hx).symm⟩⟩
    all_goals first | (repeat' split at hc) <;> (simp at hc; done) | (rename_i dr; cases dr <;> simp [cCode] at hc; done)
  | regionG xs =>
    intro code hc hpl lv e σ Q h F L a w hR
    cases code <;> simp only [cCode, ACode.strip, reduceCtorEq, Option.map_eq_some_iff, and_false, exists_false] at hc
    case region id os dr =>
      cases dr with
      | false =>
        simp only [cCode, Option.map_eq_some_iff, ACode.region.injEq] at hc
        obtain ⟨aos, hm, _, rfl⟩ := hc
        exact wp_region_list (gops_sound hC hP _ _ hm h hR fun e' σ' F' L' a' w' hq hR' hA => ⟨.normal, e', σ', F', L', trivial, hq, hR', hA⟩)
      | true =>
        simp only [cCode, Option.map_eq_some_iff, ACode.region.injEq] at hc
        obtain ⟨aos, hm, hb, _⟩ := hc
        exact absurd hb (by simp)
    all_goals first | (repeat' split at hc) <;> (simp at hc; done) | (rename_i dr; cases dr <;> simp [cCode] at hc; done)
  | seq x y ihx ihy =>
    intro code hc hpl lv e σ Q h F L a w hR
    simp only [wpCode] at h
    simp only [ACode.strip] at hc
    split at hc
    · rename_i hg
      cases x <;> simp only [ACode.isGhost, Bool.false_eq_true] at hg
      rename_i g
      simp only [wpCode] at h
      split at h
      case h_2 => exact h.elim
      rename_i e' σ' hgh
      obtain ⟨F', L', hR', hA⟩ := ghost_rel hR hgh
      exact wp_mono (ihy hc (by simp only [ACode.plan, Bool.and_eq_true] at hpl; exact hpl.2) h hR') fun x a' w' hp => hA.postC hp
    · split at hc
      · rename_i hg
        cases y <;> simp only [ACode.isGhost, Bool.false_eq_true] at hg
        rename_i g
        refine wp_mono (ihx hc (by simp only [ACode.plan, Bool.and_eq_true] at hpl; exact hpl.1) h hR) fun x a' w' hp => ?_
        obtain ⟨x', e', σ', F', L', h1, h2, h3, h4⟩ := hp
        cases x' with
        | normal =>
          simp only [wpCode] at h2
          split at h2
          case h_2 => exact h2.elim
          rename_i e2 σ2 hgh
          obtain ⟨F2, L2, hR2, hA2⟩ := ghost_rel h3 hgh
          exact ⟨.normal, e2, σ2, F2, L2, h1, h2, hR2, h4.trans hA2⟩
        | exit i => exact ⟨.exit i, e', σ', F', L', h1, h2, h3, h4⟩
        | ret => exact ⟨.ret, e', σ', F', L', h1, h2, h3, h4⟩
      · cases code
        case region id os dr => cases dr <;> simp [cCode] at hc
        all_goals simp only [cCode, reduceCtorEq, Option.map_eq_some_iff, and_false, exists_false] at hc
        case seq cx cy =>
          split at hc
          case h_2 => simp at hc
          rename_i ax ay hx hy
          injection hc with hc; injection hc with e1 e2
          subst e1; subst e2
          refine wp_seq (wp_mono (ihx hx (by simp only [ACode.plan, Bool.and_eq_true] at hpl; exact hpl.1) h hR) fun x a' w' hp => ?_)
          obtain ⟨x', e', σ', F', L', h1, h2, h3, h4⟩ := hp
          cases x' with
          | normal =>
            cases x <;> simp only [ExitRel] at h1
            exact wp_mono (ihy hy (by simp only [ACode.plan, Bool.and_eq_true] at hpl; exact hpl.2) h2 h3) fun x a'' w'' hp => h4.postC hp
          | exit i =>
            cases x <;> simp only [ExitRel] at h1
            exact ⟨.exit i, e', σ', F', L', h1, h2, h3, h4⟩
          | ret =>
            cases x <;> simp only [ExitRel] at h1
            exact ⟨.ret, e', σ', F', L', h1, h2, h3, h4⟩
        all_goals first | (repeat' split at hc) <;> (simp at hc; done) | (rename_i dr; cases dr <;> simp [cCode] at hc; done)
  | cond c x y ihx ihy =>
    intro code hc hpl lv e σ Q h F L a w hR
    cases code <;> simp only [cCode, ACode.strip, reduceCtorEq, Option.map_eq_some_iff, and_false, exists_false] at hc
    case cond cc cx cy =>
      split at hc
      case h_2 => simp at hc
      rename_i ac ax ay hcc hx hy
      injection hc with hc; injection hc with e1 e2 e3
      subst e1; subst e2; subst e3
      simp only [wpCode] at h
      split at h
      case h_2 => exact h.elim
      rename_i t ht
      have hev := cond_eval hR.env hcc ht
      cases t with
      | true => simp only [if_true] at h; exact wp_cond_true hev (ihx hx (by simp only [ACode.plan, Bool.and_eq_true] at hpl; exact hpl.1) h hR)
      | false => simp only [Bool.false_eq_true, if_false] at h; exact wp_cond_false hev (ihy hy (by simp only [ACode.plan, Bool.and_eq_true] at hpl; exact hpl.2) h hR)
    all_goals first | (repeat' split at hc) <;> (simp at hc; done) | (rename_i dr; cases dr <;> simp [cCode] at hc; done)
  | block id b ih =>
    intro code hc hpl lv e σ Q h F L a w hR
    cases code <;> simp only [cCode, ACode.strip, reduceCtorEq, Option.map_eq_some_iff, and_false, exists_false] at hc
    case block id' b' =>
      obtain ⟨ab, hb, hc⟩ := hc
      injection hc with e1 e2
      subst e1; subst e2
      simp only [wpCode] at h
      refine wp_block (wp_mono (ih hb hpl h hR) fun x a' w' hp => ?_)
      obtain ⟨x', e', σ', F', L', h1, h2, h3, h4⟩ := hp
      cases x' with
      | normal =>
        cases x <;> simp only [ExitRel] at h1
        exact ⟨.normal, e', σ', F', L', trivial, h2, h3, h4⟩
      | exit i =>
        cases x <;> simp only [ExitRel] at h1
        subst h1
        simp only [Exit.inBlock]
        split
        · rename_i hi; simp only [if_pos hi] at h2; exact ⟨.normal, e', σ', F', L', trivial, h2, h3, h4⟩
        · rename_i hi; simp only [if_neg hi] at h2; exact ⟨.exit i, e', σ', F', L', rfl, h2, h3, h4⟩
      | ret =>
        cases x <;> simp only [ExitRel] at h1
        exact ⟨.ret, e', σ', F', L', trivial, h2, h3, h4⟩
    all_goals first | (repeat' split at hc) <;> (simp at hc; done) | (rename_i dr; cases dr <;> simp [cCode] at hc; done)
  | loop b ih =>
    intro code hc hpl lv e σ Q h F L a w hR
    cases code <;> simp only [cCode, ACode.strip, reduceCtorEq, Option.map_eq_some_iff, and_false, exists_false] at hc
    case loop b' =>
      obtain ⟨ab, hb, hc⟩ := hc
      injection hc with e2
      subst e2
      simp only [wpCode] at h
      refine wp_loop_ghost (fun m a' w' => ∃ e' σ' F' L', loopA (wpCode cw n lv b) m e' σ' Q ∧ CRel F' L' lv e' σ' a' w' ∧ Adv F L w F' L' w') n ⟨e, σ, F, L, h, hR, Adv.refl F L w⟩ ?_
      rintro m a1 w1 ⟨e1, σ1, F1, L1, h1, h2, h3⟩
      cases m with
      | zero => exact h1.elim
      | succ m =>
        simp only [loopA] at h1
        refine wp_mono (ih hb hpl h1 h2) fun x a' w' hp => ?_
        obtain ⟨x', e', σ', F', L', q1, q2, q3, q4⟩ := hp
        cases x' with
        | normal =>
          cases x <;> simp only [ExitRel] at q1
          exact ⟨m, by omega, e', σ', F', L', q2, q3, h3.trans q4⟩
        | exit i =>
          cases x <;> simp only [ExitRel] at q1
          exact ⟨.exit i, e', σ', F', L', q1, q2, q3, h3.trans q4⟩
        | ret =>
          cases x <;> simp only [ExitRel] at q1
          exact ⟨.ret, e', σ', F', L', q1, q2, q3, h3.trans q4⟩
    all_goals first | (repeat' split at hc) <;> (simp at hc; done) | (rename_i dr; cases dr <;> simp [cCode] at hc; done)
  | exit id =>
    intro code hc hpl lv e σ Q h F L a w hR
    cases code <;> simp only [cCode, ACode.strip, reduceCtorEq, Option.map_eq_some_iff, and_false, exists_false] at hc
    case exit id' =>
      injection hc with hc; injection hc with e1; subst e1
      exact wp_exit ⟨.exit _, e, σ, F, L, rfl, h, hR, Adv.refl F L w⟩
    all_goals first | (repeat' split at hc) <;> (simp at hc; done) | (rename_i dr; cases dr <;> simp [cCode] at hc; done)
  | ret =>
    intro code hc hpl lv e σ Q h F L a w hR
    cases code <;> simp only [cCode, ACode.strip, reduceCtorEq, Option.map_eq_some_iff, and_false, exists_false] at hc
    case ret => exact wp_ret ⟨.ret, e, σ, F, L, trivial, h, hR, Adv.refl F L w⟩
    all_goals first | (repeat' split at hc) <;> (simp at hc; done) | (rename_i dr; cases dr <;> simp [cCode] at hc; done)
  | trunc b ih =>
    intro code hc hpl lv e σ Q h F L a w hR
    simp only [ACode.strip] at hc
    simp only [wpCode] at h
    refine wp_mono (ih hc hpl h hR) fun x a' w' hp => ?_
    obtain ⟨x', e', σ', F', L', h1, h2, h3, h4⟩ := hp
    have hcut := fun hu => (h3.level hR.full h4 hu).cut (fun l hl => (hR.lv l hl).1) (fun o ho => hR.inv.lt o ho) h4
    cases x' with
    | normal => exact ⟨.normal, _, _, F', _, h1, h2.2, (hcut h2.1).1, (hcut h2.1).2⟩
    | exit i => exact ⟨.exit i, _, _, F', _, h1, h2.2, (hcut h2.1).1, (hcut h2.1).2⟩
    | ret => exact ⟨.ret, e', σ', F', L', h1, h2, h3, h4⟩
  | scope b ih =>
    intro code hc hpl lv e σ Q h F L a w hR
    cases code <;> simp only [cCode, ACode.strip, reduceCtorEq, Option.map_eq_some_iff, and_false, exists_false] at hc
    case scope b' =>
      obtain ⟨ab, hb, hc⟩ := hc
      injection hc with e1
      subst e1
      simp only [wpCode] at h
      refine wp_scope_straight (wp_mono (ih hb hpl h hR) fun x a' w' hp => ?_)
      obtain ⟨x', e', σ', F', L', h1, h2, h3, h4⟩ := hp
      cases x <;> first | exact ⟨x', e', σ', F', L', h1, h2, h3, h4⟩ | (cases x' <;> exact h1.elim)
    all_goals first | (repeat' split at hc) <;> (simp at hc; done) | (rename_i dr; cases dr <;> simp [cCode] at hc; done)
  | ghost g =>
    intro code hc hpl lv e σ Q h F L a w hR
    cases code <;> simp only [cCode, ACode.strip, reduceCtorEq, Option.map_eq_some_iff, and_false, exists_false] at hc
    all_goals first | (repeat' split at hc) <;> (simp at hc; done) | (rename_i dr; cases dr <;> simp [cCode] at hc; done)

/-! ### Calls -/
def resSem (tmps : Array Value) (r : ResultVar) : Sem Value :=
  match r with
  | .tmp t => pure (tmps.getD t undef)
  | .cell ad t => do loadVar t (← asAddr (tmps.getD ad undef))

theorem results_eq (fn : Func) (tmps : Array Value) : results fn tmps = (do
    let vs ← fn.results.mapM (resSem tmps)
    pure (if h : vs.size = 1 then vs[0] else .tuple vs)) := rfl

theorem res_sound {F : Frz} {L : Lay} {lv : List Nat} {e : Env} {σ : Sto} {a : Act} {w : World} (hR : CRel F L lv e σ a w) {fn : Func} {rs : List ARes} (hc : fn.results.toList.mapM (cRes P) = some rs) {v : AVal}
    (hv : resultsA rs e σ = some v) : ∃ cv, (results fn a.tmps).run P w = .ok cv w ∧ VRel F L v cv := by
  have one : ∀ (r : ResultVar) (ar : ARes), cRes P r = some ar → ∀ u, resA e σ ar = some u → ∃ cv, (resSem a.tmps r).run P w = .ok cv w ∧ VRel F L u cv := by
    intro r ar hr u hu
    cases r with
    | tmp t =>
      simp only [cRes] at hr
      obtain rfl := Option.some.inj hr
      simp only [resA] at hu
      obtain rfl := Option.some.inj hu
      exact ⟨_, rfl, hR.env.get t⟩
    | cell ad t =>
      simp only [cRes] at hr
      split at hr
      case h_2 => simp at hr
      rename_i ag n hag hsz
      obtain rfl := Option.some.inj hr
      have hget := hR.env.get ad
      simp only [resA] at hu
      split at hu
      case h_2 => simp at hu
      rename_i o gen off hp
      rw [hp] at hget
      split at hu
      case h_2 => simp at hu
      rename_i nl cs hσ
      split at hu
      case isFalse => simp at hu
      rename_i hg
      obtain ⟨cv, h1, h2⟩ := loadPtr (P := P) hR.inv hag hsz hget hσ hg hu
      refine ⟨cv, ?_, h2⟩
      have hptr : ∃ b, a.tmps.getD ad undef = .pointer (some b) := by
        generalize a.tmps.getD ad undef = q at hget
        cases hget with
        | ptr h0 h1 h2 h => exact h1
      obtain ⟨b, hb⟩ := hptr
      show (do loadVar t (← asAddr (a.tmps.getD ad undef)) : Sem Value).run P w = _
      rw [hb] at h1 ⊢
      simpa [Instr.loadAt, Instr.sureAddr, asAddr] using h1
  have all : ∀ (l : List ResultVar) (rs : List ARes), l.mapM (cRes P) = some rs → ∀ (us : List AVal), rs.mapM (resA e σ) = some us → ∃ cvs : List Value, (l.mapM (resSem a.tmps)).run P w = .ok cvs w ∧ cvs.length = us.length ∧ ∀ (i : Nat) u, us[i]? = some u → VRel F L u (cvs.getD i undef) := by
    intro l
    induction l with
    | nil =>
      intro rs hrs us hus
      simp at hrs; subst hrs
      simp at hus; subst hus
      exact ⟨[], rfl, rfl, fun i u h => by simp at h⟩
    | cons r l ih =>
      intro rs hrs us hus
      simp only [List.mapM_cons, Option.pure_def, Option.bind_eq_bind, Option.bind_eq_some_iff] at hrs
      obtain ⟨ar, har, rs', hrs', heq⟩ := hrs
      obtain rfl := Option.some.inj heq
      simp only [List.mapM_cons, Option.pure_def, Option.bind_eq_bind, Option.bind_eq_some_iff] at hus
      obtain ⟨u, hu, us', hus', heq⟩ := hus
      obtain rfl := Option.some.inj heq
      obtain ⟨cv, h1, h2⟩ := one r ar har u hu
      obtain ⟨cvs, h3, h4, h5⟩ := ih rs' hrs' us' hus'
      refine ⟨cv :: cvs, ?_, by simp [h4], fun i x hi => ?_⟩
      · simp only [List.mapM_cons, Sem.run_bind, h1, Result.andThen_ok, h3, Sem.run_pure]
      · cases i with
        | zero => simp at hi; subst hi; simpa using h2
        | succ i => have := h5 i x (by simpa using hi); simpa using this
  unfold resultsA at hv
  split at hv
  · rename_i u hm
    obtain rfl := Option.some.inj hv
    obtain ⟨cvs, h1, h2, h3⟩ := all _ _ hc _ hm
    have := h3 0 u rfl
    obtain ⟨c, rfl⟩ : ∃ c, cvs = [c] := by
      cases cvs with
      | nil => simp at h2
      | cons c l => cases l with
        | nil => exact ⟨c, rfl⟩
        | cons _ _ => simp at h2
    simp at this
    refine ⟨c, ?_, this⟩
    rw [results_eq, Sem.run_bind]
    have hm' : (fn.results.mapM (resSem a.tmps)).run P w = .ok #[c] w := by
      rw [← Array.toArray_toList (xs := fn.results), List.mapM_toArray, Sem.run_map, h1]; rfl
    rw [hm']; rfl
  · rename_i us hne hm
    obtain rfl := Option.some.inj hv
    obtain ⟨cvs, h1, h2, h3⟩ := all _ _ hc _ hm
    refine ⟨.tuple cvs.toArray, ?_, .tup (by simpa using h2) fun i c hi => by have := h3 i c hi; simpa [Array.getD_eq_getD_getElem?, List.getD_eq_getElem?_getD] using this⟩
    rw [results_eq, Sem.run_bind]
    have hm' : (fn.results.mapM (resSem a.tmps)).run P w = .ok cvs.toArray w := by
      rw [← Array.toArray_toList (xs := fn.results), List.mapM_toArray, Sem.run_map, h1]; rfl
    rw [hm']
    have hsz : cvs.toArray.size ≠ 1 := by
      intro h
      have hl : us.length = 1 := by rw [← h2]; simpa using h
      cases us with
      | nil => simp at hl
      | cons u l => cases l with
        | nil => exact hne u rfl
        | cons _ _ => simp at hl
    simp only [Result.andThen_ok]
    rw [dif_neg hsz]; rfl
  · simp at hv

theorem init_rel {F : Frz} {L : Lay} {args : List AVal} {cargs : Array Value} (h : ArgsRel F L args cargs) (n : Nat) : EnvRel F L (initEnv n args) (cargs ++ Array.replicate (n - cargs.size) undef) := by
  refine ⟨by simp [initEnv, h.1], fun t v hv => ?_⟩
  unfold initEnv at hv
  rcases Nat.lt_or_ge t args.length with ht | ht
  · rw [List.getElem?_append_left ht] at hv
    have := h.2 t v hv
    rw [Array.getD_eq_getD_getElem?, Array.getElem?_append_left (by rw [h.1]; exact ht), ← Array.getD_eq_getD_getElem?]; exact this
  · rw [List.getElem?_append_right ht, List.getElem?_replicate] at hv
    split at hv
    · obtain rfl := Option.some.inj hv; exact .und
    · simp at hv

theorem ret_sound {F : Frz} {L : Lay} {lv : List Nat} {e : Env} {σ : Sto} {a : Act} {w : World} (hR : CRel F L lv e σ a w) {fn : Func} {af : AFunc} (hc : fn.results.toList.mapM (cRes P) = some af.results) {x : AExit} {ex : Exit} (hx : ExitRel x ex)
    {Q : Post} (h : retA af x e σ Q) {R : Ending → World → Prop} (hK : ∀ v cv, Q v σ → VRel F L v cv → R (.returned cv) w) : bodyPost P fn R ex a w := by
  unfold retA at h
  cases x with
  | exit i => exact h.elim
  | normal =>
    cases ex <;> simp only [ExitRel] at hx
    simp only at h
    split at h
    case h_2 => exact h.elim
    rename_i v hv
    obtain ⟨cv, h1, h2⟩ := res_sound hR hc hv
    exact ⟨hR.defers, cv, h1, hK v cv h h2⟩
  | ret =>
    cases ex <;> simp only [ExitRel] at hx
    simp only at h
    split at h
    case h_2 => exact h.elim
    rename_i v hv
    obtain ⟨cv, h1, h2⟩ := res_sound hR hc hv
    exact ⟨hR.defers, cv, h1, hK v cv h h2⟩

theorem FuncOk.fn {f : FuncId} {af : AFunc} (h : FuncOk P f af) : ∃ fn, P.funcs[f]? = some fn ∧ fn.body.isSome ∧ (fn.name == "runtime.NumGoroutine") = false := by
  obtain ⟨fn, code, h1, h2, h3, _⟩ := h
  exact ⟨fn, h1, by simp [h2], h3⟩

theorem callW_false (hmix : P.follows .mixedOrders = true) {T : FuncId → Option AFunc} (hT : ∀ f af, T f = some af → FuncOk P f af) {n : Nat} (hC : CallsOk P (callW T n)) (hP : PureOk P (callW T n)) : ∀ {f : FuncId} {args : List AVal} {lv : List Nat} {σ : Sto} {Q : Post},
    callW T (n + 1) false f args lv σ Q → ∀ {F : Frz} {L : Lay} {w : World} {cargs : Array Value}, ArgsRel F L args cargs → Inv F L σ w → Full L σ → LvOk lv σ →
    (∃ fn, P.funcs[f]? = some fn ∧ fn.body.isSome ∧ (fn.name == "runtime.NumGoroutine") = false) ∧
    Calls P f cargs w fun e w' => ∃ v cv σ' F' L', e = .returned cv ∧ Q v σ' ∧ VRel F' L' v cv ∧ Inv F' L' σ' w' ∧ Full L' σ' ∧ LvOk lv σ' ∧ Adv F L w F' L' w' := by
  intro f args lv σ Q h F L w cargs har hI hF hl
  simp only [callW] at h
  split at h
  case h_2 => exact h.elim
  rename_i af haf
  have hfo := hT f af haf
  refine ⟨hfo.fn, ?_⟩
  obtain ⟨fn, code, h1, h2, h3, h4, h5, hpl, h6⟩ := hfo
  have hinit : CRel F L lv (initEnv af.ntmps args) σ { tmps := cargs ++ Array.replicate (fn.ntmps - cargs.size) undef, defers := [] } w := ⟨by rw [h4]; exact init_rel har _, rfl, hI, hF, hl⟩
  refine calls_of_wp h1 h2 (wp_mono (code_sound hmix (callW_det T n) hC hP _ h5 hpl h hinit) fun x a' w' hp => ?_)
  obtain ⟨x', e', σ', F', L', q1, q2, q3, q4⟩ := hp
  exact ret_sound q3 h6 q1 q2 fun v cv hq hv => ⟨v, cv, σ', F', L', rfl, hq, hv, q3.inv, q3.full, q3.lv, q4⟩

theorem mapM_pure {σ : Sto} : ∀ {args as : List AVal}, args.mapM (snapA σ snapDepth) = some as → AVal.pures args = true → as = args
  | [], as, h, _ => by simp at h; exact h
  | x :: xs, as, h, hp => by
    simp only [List.mapM_cons, Option.pure_def, Option.bind_eq_bind, Option.bind_eq_some_iff] at h
    obtain ⟨y, hy, ys, hys, heq⟩ := h
    obtain rfl := Option.some.inj heq
    simp only [AVal.pures, AVal.namesL, Bool.and_eq_true] at hp
    have : snapA σ snapDepth x = some x := by
      unfold snapDepth
      unfold snapA
      rw [if_pos hp.1]
    rw [this] at hy
    obtain rfl := Option.some.inj hy
    rw [mapM_pure hys hp.2]

open Classical in
/-- the frozen memory of a caller after a call that was lent some of its own -/
noncomputable def backFrz (F : Frz) (L : Lay) : Frz where
  cells b off := if Owns L b then none else F.cells b off
  maps r := if Owns L r then none else F.maps r

theorem flats_iff : ∀ {vs : List AVal}, AVal.flats vs = true ↔ ∀ (i : Nat) (v : AVal), vs[i]? = some v → v.flat = true
  | [] => by simp [AVal.flats]
  | v :: vs => by
    simp only [AVal.flats, Bool.and_eq_true, flats_iff (vs := vs)]
    constructor
    · rintro ⟨h1, h2⟩ i w hw
      cases i with
      | zero => simp at hw; exact hw ▸ h1
      | succ i => exact h2 i w (by simpa using hw)
    · intro h
      exact ⟨h 0 v rfl, fun i w hw => h (i + 1) w (by simpa using hw)⟩

theorem VRel.flat {F : Frz} {L : Lay} {v : AVal} {cv : Value} (h : VRel F L v cv) : v.flat = true → ∀ (F' : Frz) (L' : Lay), VRel F' L' v cv := by
  induction h with
  | und => intros; exact .und
  | bool => intros; exact .bool
  | int => intros; exact .int
  | str => intros; exact .str
  | nils => intros; exact .nils
  | emp => intro h; simp [AVal.flat] at h
  | list => intro h; simp [AVal.flat] at h
  | ref => intro h; simp [AVal.flat] at h
  | nilp => intros; exact .nilp
  | fptr => intro h; simp [AVal.flat] at h
  | ptr => intro h; simp [AVal.flat] at h
  | nilm => intros; exact .nilm
  | fmap => intro h; simp [AVal.flat] at h
  | map => intro h; simp [AVal.flat] at h
  | nilf => intros; exact .nilf
  | clo hfl hcl hf hc ihf ihc =>
    intro h F' L'
    simp only [AVal.flat, Bool.and_eq_true, flats_iff] at h
    exact .clo hfl hcl (fun i c hi => ihf i c hi (h.1 i c hi) F' L') (fun i c hi => ihc i c hi (h.2 i c hi) F' L')
  | nili => intros; exact .nili
  | iface h ho ih => intro hf F' L'; exact .iface (ih hf F' L') ho
  | agg hl hc ih =>
    intro h F' L'
    simp only [AVal.flat, flats_iff] at h
    exact .agg hl fun i c hi => ih i c hi (h i c hi) F' L'
  | tup hl hc ih =>
    intro h F' L'
    simp only [AVal.flat, flats_iff] at h
    exact .tup hl fun i c hi => ih i c hi (h i c hi) F' L'

theorem callW_true (hmix : P.follows .mixedOrders = true) {T : FuncId → Option AFunc} (hT : ∀ f af, T f = some af → FuncOk P f af) {n : Nat} (hC : CallsOk P (callW T n)) (hP : PureOk P (callW T n)) : ∀ {f : FuncId} {args : List AVal} {lv : List Nat} {σ : Sto} {Q : Post},
    callW T (n + 1) true f args lv σ Q → ∃ v, Q v σ ∧ (∃ fn, P.funcs[f]? = some fn ∧ fn.body.isSome ∧ (fn.name == "runtime.NumGoroutine") = false) ∧
    ∀ {F : Frz} {L : Lay} {σs : Sto} {w : World} {cargs : Array Value}, ArgsRel F L args cargs → Inv F L σs w → (∀ i, i < σ.length → σs[i]? = σ[i]?) →
    Calls P f cargs w fun e w' => ∃ cv F', e = .returned cv ∧ VRel F' L v cv ∧ Inv F' L σs w' ∧ Adv F L w F' L w' := by
  intro f args lv σ Q h
  simp only [callW] at h
  split at h
  case h_2 => exact h.elim
  rename_i as af has haf
  have hfo := hT f af haf
  obtain ⟨x, e, σ', h1, h2⟩ := code_det (callW_det T n) _ h
  obtain ⟨v, h3, h4⟩ := ret_det h1
  split at h3
  case h_2 => exact h3.elim
  rename_i v' hv'
  refine ⟨v', h3.2, hfo.fn, ?_⟩
  intro F L σs w cargs har hI hpre
  obtain ⟨fn, code, g1, g2, g3, g4, g5, hpl, g6⟩ := hfo
  -- the run, for whatever it is asked
  have hrun := @h2 (fun x e σ' => retA af x e σ' fun v'' σ'' => v'' = v ∧ snapA σ'' snapDepth v'' = some v') (h4 ⟨rfl, hv'⟩)
  -- the memory that the callee sees
  obtain ⟨Fc, hFc, hIc, harc, hFle, hsame⟩ : ∃ Fc : Frz, (∀ b, ¬ Owns L b → (∀ off, Fc.cells b off = F.cells b off) ∧ Fc.maps b = F.maps b) ∧ Inv Fc noL [] w ∧ ArgsRel Fc noL as cargs ∧ F.Le Fc ∧
      (AVal.pures args = true → ∀ b, Owns L b → (∀ off, Fc.cells b off = none) ∧ Fc.maps b = none) := by
    by_cases hp : AVal.pures args = true
    · refine ⟨F, fun b _ => ⟨fun _ => rfl, rfl⟩, ⟨hI.fz, hI.fm, fun o loc gen h => by simp [noL] at h, fun o h => absurd rfl h, fun o o' l l' g g' b h => by simp [noL] at h, fun b hb => absurd hb (not_owns_noL b), fun o h => by simp [noL] at h⟩, ?_, Frz.Le.refl F, fun _ b hb => hI.sep b hb⟩
      rw [mapM_pure has hp]
      have hp' := namesL_mem.1 hp
      exact ⟨har.1, fun i c hc => (har.2 i c hc).toPure (hp' c (List.mem_of_getElem? hc)) noL⟩
    · refine ⟨freezeAll F L w, fun b hb => ⟨fun off => by simp only [freezeAll, if_neg hb], by simp only [freezeAll, if_neg hb]⟩, hI.frozen [], ?_, freezeAll_le hI, fun h => absurd h hp⟩
      obtain ⟨m1, m2⟩ := mapM_some _ has
      refine ⟨har.1.trans m1.symm, fun i c hc => ?_⟩
      obtain ⟨y, hy, hs⟩ := mapM_back _ has hc
      exact snapA_rel hI hpre _ hs (har.2 i y hy)
  have hinit : CRel Fc noL [] (initEnv af.ntmps as) [] { tmps := cargs ++ Array.replicate (fn.ntmps - cargs.size) undef, defers := [] } w :=
    ⟨by rw [g4]; exact init_rel harc _, rfl, hIc, fun o ho => by simp at ho, fun l hl => by simp at hl⟩
  refine calls_of_wp g1 g2 (wp_mono (code_sound hmix (callW_det T n) hC hP _ g5 hpl hrun hinit) fun ex a' w' hp => ?_)
  obtain ⟨x', e', σ2, F2, L2, q1, q2, q3, q4⟩ := hp
  refine ret_sound q3 g6 q1 q2 fun u cv hq hv => ?_
  obtain ⟨rfl, hsn⟩ := hq
  -- all that the callee made is frozen
  have hv3 := snapA_rel q3.inv (fun _ _ => rfl) _ hsn hv
  have hI3 := q3.inv.frozen ([] : Sto)
  have hle3 := freezeAll_le q3.inv
  have hown2 : ∀ b, b < w.heap.size → ¬ Owns L2 b := fun b hb ho => not_owns_noL b (q4.own b hb ho)
  -- the caller's memory lies as it lay
  have hkeep : ∀ b, b < w.heap.size → w'.heap[b]? = w.heap[b]? := fun b hb => q4.keep b hb (not_owns_noL b)
  have h3old : ∀ b, b < w.heap.size → (∀ off, (freezeAll F2 L2 w').cells b off = Fc.cells b off) ∧ (freezeAll F2 L2 w').maps b = Fc.maps b := by
    intro b hb
    obtain ⟨k1, k2⟩ := q4.fkeep b hb (not_owns_noL b)
    simp only [freezeAll, if_neg (hown2 b hb)]
    exact ⟨k1, k2⟩
  let F4 := backFrz (freezeAll F2 L2 w') L
  have hF4 : F.Le F4 := by
    constructor
    · intro b off u hu
      have hn : ¬ Owns L b := fun ho => by have := (hI.sep b ho).1 off; rw [this] at hu; simp at hu
      have hb : b < w.heap.size := World.cell?_lt (hI.fz _ _ _ hu)
      simp only [F4, backFrz, if_neg hn, (h3old b hb).1, (hFc b hn).1]; exact hu
    · intro r kv hu
      have hn : ¬ Owns L r := fun ho => by have := (hI.sep r ho).2; rw [this] at hu; simp at hu
      obtain ⟨es, cl, hw, _⟩ := hI.fm _ _ hu
      have hb : r < w.heap.size := (Array.getElem?_eq_some_iff.1 hw).1
      simp only [F4, backFrz, if_neg hn, (h3old r hb).2, (hFc r hn).2]; exact hu
  have hI4 : Inv F4 L σs w' := by
    refine ⟨fun b off u hu => ?_, fun r kv hu => ?_, fun o loc gen ho => ?_, hI.lt, hI.inj, fun b hb => by simp only [F4, backFrz, if_pos hb]; exact ⟨fun _ => trivial, trivial⟩, hI.dd⟩
    · simp only [F4, backFrz] at hu
      split at hu
      · simp at hu
      · exact hI3.fz _ _ _ hu
    · simp only [F4, backFrz] at hu
      split at hu
      · simp at hu
      · exact hI3.fm _ _ hu
    · obtain ⟨ob, k1, k2⟩ := hI.obj o loc gen ho
      exact ⟨ob, k1, k2.mono hF4 (Evo.refl L) fun b hb => hkeep b (k2.heap hb)⟩
  refine ⟨cv, F4, rfl, ?_, hI4, ⟨hF4, Evo.refl L, q4.os, q4.tape, q4.output, q4.size, fun b _ h => h, fun b hb _ => hkeep b hb, fun b hb hn => ?_⟩⟩
  · rcases h3.1 with hp | hfl
    · refine (hv3.ofNo L).frz ⟨fun b off u hu => ?_, fun r kv hu => ?_⟩
      · by_cases ho : Owns L b
        · have hb := hI.old ho
          have k1 := (h3old b hb).1 off
          rw [hu, (hsame hp b ho).1] at k1; simp at k1
        · simp only [F4, backFrz, if_neg ho]; exact hu
      · by_cases ho : Owns L r
        · have hb := hI.old ho
          have k1 := (h3old r hb).2
          rw [hu, (hsame hp r ho).2] at k1; simp at k1
        · simp only [F4, backFrz, if_neg ho]; exact hu
    · exact hv3.flat hfl F4 L
  · simp only [F4, backFrz, if_neg hn, (h3old b hb).1, (h3old b hb).2, (hFc b hn).1, (hFc b hn).2]
    exact ⟨fun _ => trivial, trivial⟩

/-- **The abstract machine is sound.** -/
theorem calls_ok (hmix : P.follows .mixedOrders = true) {T : FuncId → Option AFunc} (hT : ∀ f af, T f = some af → FuncOk P f af) : ∀ n, CallsOk P (callW T n) ∧ PureOk P (callW T n)
  | 0 => ⟨fun h => by simp [callW] at h, fun h => by simp [callW] at h⟩
  | n + 1 => by
    obtain ⟨hC, hP⟩ := calls_ok hmix hT n
    exact ⟨fun h => callW_false hmix hT hC hP h, fun h => callW_true hmix hT hC hP h⟩

end
end Go.Abs
