/- The abstract machine is sound: code and calls. -/
import Derived.Test.YtaiibojjndeipaaAbsSound
import Derived.Test.YtaiibojjndeipaaAbsDet
set_option linter.all false
namespace Go.Abs
open Go


section
variable {P : Program}

/-! ### Levels -/
theorem CRel.push {F : Frz} {L : Lay} {lv : List Nat} {e : Env} {σ : Sto} {a : Act} {w : World} (h : CRel F L lv e σ a w) : CRel F L (σ.length :: lv) e σ a w := by
  refine ⟨h.env, h.defers, h.inv, h.full, fun l hl => ?_⟩
  rcases List.mem_cons.1 hl with rfl | hl
  · refine ⟨Nat.le_refl _, fun o ob ho hob => ?_⟩
    have key : ∀ {v : AVal} {cv : Value}, VRel F L v cv → v.under σ.length = true := fun hv => hv.named fun i hi => by simpa using h.inv.lt i hi
    cases hL : L o with
    | un => exact absurd hL (h.full o ho)
    | dead => have := h.inv.dd o hL; rw [hob] at this; obtain rfl := Option.some.inj this; rfl
    | live loc g =>
      obtain ⟨ob', h1, h2⟩ := h.inv.obj o loc g hL
      rw [hob] at h1
      obtain rfl := Option.some.inj h1
      cases ob with
      | cells nl cs =>
        obtain ⟨_, _, h5⟩ := h2
        cases loc with
        | blk b top =>
          obtain ⟨_, c, elem, _, _, _, hx⟩ := h5
          refine namesL_mem.2 fun x hx' => ?_
          obtain ⟨i, hi⟩ := List.getElem?_of_mem hx'
          exact key (hx i x hi)
        | nil => obtain ⟨_, rfl⟩ := h5; rfl
        | mp r => exact h5.elim
      | map ks vs =>
        obtain ⟨r, es, cl, _, _, _, _, hk, hv⟩ := h2
        simp only [AObj.under, Bool.and_eq_true]
        refine ⟨namesL_mem.2 fun x hx' => ?_, namesL_mem.2 fun x hx' => ?_⟩
        · obtain ⟨i, hi⟩ := List.getElem?_of_mem hx'
          obtain ⟨m, _, hm⟩ := hk i x hi; exact key hm
        · obtain ⟨i, hi⟩ := List.getElem?_of_mem hx'
          obtain ⟨m, _, hm⟩ := hv i x hi; exact key hm
      | dead => rfl
  · exact h.lv l hl

def cutL (L : Lay) (n : Nat) : Lay := fun o => if o < n then L o else .un

theorem VRel.cut {F : Frz} {L : Lay} {n : Nat} {v : AVal} {cv : Value} (h : VRel F L v cv) (hu : v.under n = true) : VRel F (cutL L n) v cv :=
  h.names (Frz.Le.refl F) hu fun o ho => by
    have : o < n := by simpa using ho
    simp only [cutL, if_pos this]; exact EvoSt.refl _

theorem CRel.cut {F0 : Frz} {L0 : Lay} {w0 : World} {F : Frz} {L : Lay} {lv : List Nat} {n : Nat} {e : Env} {σ : Sto} {a : Act} {w : World} (h : CRel F L (n :: lv) e σ a w) (hlv : ∀ l ∈ lv, l ≤ n)
    (hL0 : ∀ o, L0 o ≠ .un → o < n) (hA : Adv F0 L0 w0 F L w) : CRel F (cutL L n) lv (sanitize n e) (σ.take n) a w ∧ Adv F0 L0 w0 F (cutL L n) w := by
  obtain ⟨hn, hobs⟩ := h.lv n (by simp)
  have hlive : ∀ {o loc g}, cutL L n o = .live loc g → o < n ∧ L o = .live loc g := by
    intro o loc g ho
    unfold cutL at ho
    split at ho
    · exact ⟨by assumption, ho⟩
    · simp at ho
  have hown : ∀ {b}, Owns (cutL L n) b → Owns L b := fun ⟨o, loc, g, h1, h2⟩ => ⟨o, loc, g, (hlive h1).2, h2⟩
  refine ⟨⟨⟨by simp [sanitize, h.env.1], fun t v hv => ?_⟩, h.defers, ⟨h.inv.fz, h.inv.fm, fun o loc g ho => ?_, fun o ho => ?_, fun o o' l l' g g' b h1 h2 => h.inv.inj _ _ _ _ _ _ b (hlive h1).2 (hlive h2).2, fun b hb => h.inv.sep b (hown hb), fun o ho => ?_⟩,
    fun o ho => ?_, fun l hl => ?_⟩, ⟨hA.frz, fun o => ?_, hA.os, hA.tape, hA.output, hA.size, fun b hb ho => hA.own b hb (hown ho), hA.keep, hA.fkeep⟩⟩
  · simp only [sanitize, List.getElem?_map, Option.map_eq_some_iff] at hv
    obtain ⟨u, hu, rfl⟩ := hv
    split
    · rename_i hun; exact (h.env.2 t u hu).cut hun
    · exact .und
  · obtain ⟨hlt, ho'⟩ := hlive ho
    obtain ⟨ob, h1, h2⟩ := h.inv.obj o loc g ho'
    refine ⟨ob, by rw [List.getElem?_take, if_pos hlt]; exact h1, ?_⟩
    have hu := hobs o ob hlt h1
    cases ob with
    | cells nl cs =>
      obtain ⟨h3, h4, h5⟩ := h2
      refine ⟨h3, h4, ?_⟩
      have hu' := namesL_mem.1 hu
      cases loc with
      | blk b top =>
        obtain ⟨h6, c, elem, h7, h8, h9, hx⟩ := h5
        exact ⟨h6, c, elem, h7, h8, h9, fun p x hp => (hx p x hp).cut (hu' x (List.mem_of_getElem? hp))⟩
      | nil => exact h5
      | mp r => exact h5
    | map ks vs =>
      obtain ⟨r, es, cl, h3, h4, h5, h6, hk, hv⟩ := h2
      simp only [AObj.under, Bool.and_eq_true] at hu
      have hu1 := namesL_mem.1 hu.1
      have hu2 := namesL_mem.1 hu.2
      exact ⟨r, es, cl, h3, h4, h5, h6, fun i c hc => let ⟨m, a, b⟩ := hk i c hc; ⟨m, a, b.cut (hu1 c (List.mem_of_getElem? hc))⟩, fun i c hc => let ⟨m, a, b⟩ := hv i c hc; ⟨m, a, b.cut (hu2 c (List.mem_of_getElem? hc))⟩⟩
    | dead => exact h2
  · have : o < n := by
      unfold cutL at ho
      split at ho
      · assumption
      · exact absurd rfl ho
    rw [List.length_take]; omega
  · unfold cutL at ho
    split at ho
    · rw [List.getElem?_take, if_pos (by assumption)]; exact h.inv.dd o ho
    · simp at ho
  · rw [List.length_take] at ho
    have : o < n := by omega
    simp only [cutL, if_pos this]
    exact h.full o (by omega)
  · refine ⟨by rw [List.length_take]; have := hlv l hl; omega, fun o ob ho hob => ?_⟩
    rw [List.getElem?_take] at hob
    split at hob
    · exact (h.lv l (by simp [hl])).2 o ob ho hob
    · simp at hob
  · unfold cutL
    split
    · exact hA.evo o
    · rename_i hge
      cases hL : L0 o with
      | un => trivial
      | dead => exact absurd (hL0 o (by rw [hL]; simp)) hge
      | live _ _ => exact absurd (hL0 o (by rw [hL]; simp)) hge

theorem CRel.pop {F : Frz} {L : Lay} {lv : List Nat} {n : Nat} {e : Env} {σ : Sto} {a : Act} {w : World} (h : CRel F L (n :: lv) e σ a w) : CRel F L lv e σ a w :=
  ⟨h.env, h.defers, h.inv, h.full, fun l hl => h.lv l (by simp [hl])⟩

end
end Go.Abs
