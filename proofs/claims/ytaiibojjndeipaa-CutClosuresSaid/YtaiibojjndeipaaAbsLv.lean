/- What an operation stores names nothing above the levels. -/
import Derived.Test.YtaiibojjndeipaaAbsStep2
set_option linter.all false
namespace Go.Abs
open Go

def LvOk (lv : List Nat) (σ : Sto) : Prop := ∀ l ∈ lv, l ≤ σ.length ∧ ∀ o ob, o < l → σ[o]? = some ob → ob.under l = true

theorem namesL_append {p : Nat → Bool} : ∀ {xs ys : List AVal}, AVal.namesL p (xs ++ ys) = (AVal.namesL p xs && AVal.namesL p ys)
  | [], ys => by simp [AVal.namesL]
  | x :: xs, ys => by simp [AVal.namesL, namesL_append (xs := xs), Bool.and_assoc]

theorem namesL_mem {p : Nat → Bool} : ∀ {xs : List AVal}, AVal.namesL p xs = true ↔ ∀ x ∈ xs, x.names p = true
  | [] => by simp [AVal.namesL]
  | x :: xs => by simp [AVal.namesL, namesL_mem (xs := xs)]

theorem namesL_overwrite {p : Nat → Bool} {cs new : List AVal} {off : Nat} (h1 : AVal.namesL p cs = true) (h2 : AVal.namesL p new = true) : AVal.namesL p (overwrite cs off new) = true := by
  rw [namesL_mem] at *
  intro x hx
  simp only [overwrite, List.mem_append] at hx
  rcases hx with (hx | hx) | hx
  · exact h1 x (List.mem_of_mem_take hx)
  · exact h2 x hx
  · exact h1 x (List.mem_of_mem_drop hx)

theorem LvOk.append {lv : List Nat} {σ : Sto} (h : LvOk lv σ) (new : Sto) : LvOk lv (σ ++ new) := by
  intro l hl
  obtain ⟨h1, h2⟩ := h l hl
  refine ⟨by simp; omega, fun o ob ho hob => h2 o ob ho ?_⟩
  rwa [List.getElem?_append_left (by omega)] at hob

theorem LvOk.set {lv : List Nat} {σ : Sto} (h : LvOk lv σ) {o : Nat} {ob : AObj} (hob : ∀ l ∈ lv, o < l → ob.under l = true) : LvOk lv (σ.set o ob) := by
  intro l hl
  obtain ⟨h1, h2⟩ := h l hl
  refine ⟨by simp; exact h1, fun i ob' hi hob' => ?_⟩
  rw [List.getElem?_set] at hob'
  split at hob'
  · rename_i e; subst e
    split at hob'
    · obtain rfl := Option.some.inj hob'; exact hob l hl hi
    · simp at hob'
  · exact h2 i ob' hi hob'

theorem lvOk_spec {lv : List Nat} {o : Nat} {vs : List AVal} (h : lvOk lv o vs = true) : ∀ l ∈ lv, o < l → AVal.unders l vs = true := by
  intro l hl ho
  have := List.all_eq_true.1 h l hl
  simp only [Bool.or_eq_true, decide_eq_true_eq] at this
  exact this.resolve_left (by omega)

theorem LvOk.setCells {lv : List Nat} {σ : Sto} (h : LvOk lv σ) {o : Nat} {nl nl' : Bool} {cs cs' : List AVal} (hσ : σ[o]? = some (.cells nl cs))
    (hn : ∀ l ∈ lv, o < l → AVal.unders l cs = true → AVal.unders l cs' = true) : LvOk lv (σ.set o (.cells nl' cs')) :=
  h.set fun l hl ho => hn l hl ho ((h l hl).2 o _ ho hσ)

theorem step_lv {lv : List Nat} {a : AOp} {e : Env} {σ σ' : Sto} {v : AVal} (hs : stepOp lv a e σ = some (v, σ')) (h : LvOk lv σ) : LvOk lv σ' := by
  by_cases hq : a.isQ = true
  · by_cases hm : a.makes = true
    · have : ∃ ob, σ' = σ ++ [ob] := by
        cases a <;> first | (simp [AOp.makes] at hm; done) | skip
        all_goals
          simp only [stepOp] at hs
          first
          | exact ⟨_, (Prod.mk.inj (Option.some.inj hs)).2.symm⟩
          | (simp only [Option.map_eq_some_iff, Prod.mk.injEq] at hs; obtain ⟨_, _, _, rfl⟩ := hs; exact ⟨_, rfl⟩)
          | (repeat' split at hs)
        all_goals first
          | exact ⟨_, (Prod.mk.inj (Option.some.inj hs)).2.symm⟩
          | (simp at hs; done)
      obtain ⟨ob, rfl⟩ := this
      exact h.append _
    · rw [still_store hq (by simpa using hm) hs]; exact h
  · cases a <;> first | (exfalso; apply hq; rfl) | skip
    case store n oa ov =>
      simp only [stepOp] at hs
      repeat' split at hs
      all_goals first | (simp at hs; done) | skip
      rename_i _ _ hσ hc
      obtain ⟨rfl, rfl⟩ := Prod.mk.inj (Option.some.inj hs)
      exact h.setCells hσ fun l hl ho hcs => namesL_overwrite hcs (lvOk_spec hc.2.2.2 l hl ho)
    case mapup sh m k x =>
      simp only [stepOp] at hs
      repeat' split at hs
      all_goals first | (simp at hs; done) | skip
      · rename_i _ _ _ _ ks vs hσ hc _ j _ _
        obtain ⟨rfl, rfl⟩ := Prod.mk.inj (Option.some.inj hs)
        refine h.set fun l hl ho => ?_
        have h1 := (h l hl).2 _ _ ho hσ
        have h2 := lvOk_spec hc.1 l hl ho
        simp only [AObj.under, Bool.and_eq_true] at h1 ⊢
        refine ⟨h1.1, ?_⟩
        have h12 := namesL_mem.1 h1.2
        have h22 := namesL_mem.1 h2
        refine namesL_mem.2 fun y hy => ?_
        rcases List.mem_or_eq_of_mem_set hy with hy | rfl
        · exact h12 y hy
        · exact h22 _ (by simp)
      · rename_i _ _ _ _ ks vs hσ hc _ _
        obtain ⟨rfl, rfl⟩ := Prod.mk.inj (Option.some.inj hs)
        refine h.set fun l hl ho => ?_
        have h1 := (h l hl).2 _ _ ho hσ
        have h2 := lvOk_spec hc.1 l hl ho
        simp only [AObj.under, Bool.and_eq_true] at h1 ⊢
        have h2' := namesL_mem.1 h2
        simp only [namesL_append, Bool.and_eq_true]
        exact ⟨⟨h1.1, by simp [AVal.namesL, h2' (ev e k) (by simp)]⟩, ⟨h1.2, by simp [AVal.namesL, h2' (ev e x) (by simp)]⟩⟩
    case append k bytes s x =>
      simp only [stepOp] at hs
      repeat' split at hs
      all_goals first
        | (simp at hs; done)
        | (obtain ⟨rfl, rfl⟩ := Prod.mk.inj (Option.some.inj hs); first | exact h | exact h.append _)
        | skip
      · rename_i _ _ _ _ _ _ _ _ _ _ _ _ _ hσ hc _ _
        obtain ⟨rfl, rfl⟩ := Prod.mk.inj (Option.some.inj hs)
        exact h.setCells hσ fun l hl ho hcs => namesL_overwrite hcs (lvOk_spec hc.2.2 l hl ho)
      · rename_i _ _ _ _ _ _ _ _ _ _ _ _ _ hσ hc _ _ _
        obtain ⟨rfl, rfl⟩ := Prod.mk.inj (Option.some.inj hs)
        refine h.setCells hσ fun l hl ho hcs => ?_
        simp only [AVal.unders, namesL_append, Bool.and_eq_true] at hcs ⊢
        refine ⟨?_, lvOk_spec hc.2.2 l hl ho⟩
        rw [namesL_mem] at *
        exact fun y hy => hcs y (List.mem_of_mem_take hy)
    case appendz k bytes z s x =>
      simp only [stepOp] at hs
      repeat' split at hs
      all_goals first
        | (simp at hs; done)
        | (obtain ⟨rfl, rfl⟩ := Prod.mk.inj (Option.some.inj hs); first | exact h | exact h.append _)
    case copy k d s =>
      simp only [stepOp] at hs
      repeat' split at hs
      all_goals first
        | (simp at hs; done)
        | (obtain ⟨rfl, rfl⟩ := Prod.mk.inj (Option.some.inj hs); exact h)
        | skip
      rename_i _ _ _ _ _ _ _ _ _ _ _ _ _ _ hσ hc
      obtain ⟨rfl, rfl⟩ := Prod.mk.inj (Option.some.inj hs)
      refine h.setCells hσ fun l hl ho hcs => namesL_overwrite hcs ?_
      have := lvOk_spec hc.2.2.2.2.1 l hl ho
      rw [namesL_mem] at *
      exact fun y hy => this y (List.mem_of_mem_take hy)
    case clear z x =>
      simp only [stepOp] at hs
      repeat' split at hs
      all_goals first
        | (simp at hs; done)
        | (obtain ⟨rfl, rfl⟩ := Prod.mk.inj (Option.some.inj hs); exact h)
        | skip
      rename_i _ _ _ _ _ _ _ _ _ _ hσ hc
      obtain ⟨rfl, rfl⟩ := Prod.mk.inj (Option.some.inj hs)
      refine h.setCells hσ fun l hl ho hcs => namesL_overwrite hcs ?_
      have := lvOk_spec hc.2.2.2 l hl ho
      rw [namesL_mem] at *
      intro y hy
      simp only [List.mem_flatten, List.mem_replicate] at hy
      obtain ⟨l', ⟨_, rfl⟩, hy⟩ := hy
      exact this y hy
    case delete sh m k =>
      simp only [stepOp] at hs
      repeat' split at hs
      all_goals first
        | (simp at hs; done)
        | (obtain ⟨rfl, rfl⟩ := Prod.mk.inj (Option.some.inj hs); exact h)
        | skip
      rename_i _ _ _ _ ks vs hσ _ _ j _
      obtain ⟨rfl, rfl⟩ := Prod.mk.inj (Option.some.inj hs)
      refine h.set fun l hl ho => ?_
      have h1 := (h l hl).2 _ _ ho hσ
      simp only [AObj.under, Bool.and_eq_true] at h1 ⊢
      have h12 := namesL_mem.1 h1.1
      have h22 := namesL_mem.1 h1.2
      exact ⟨namesL_mem.2 fun y hy => h12 y (List.mem_of_mem_eraseIdx hy), namesL_mem.2 fun y hy => h22 y (List.mem_of_mem_eraseIdx hy)⟩
    case call p f args => simp [stepOp] at hs
    case callv p x args => simp [stepOp] at hs

end Go.Abs
