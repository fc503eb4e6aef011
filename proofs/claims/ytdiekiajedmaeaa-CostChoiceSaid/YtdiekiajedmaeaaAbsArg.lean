/- The arguments of laws as typed values. -/
import Derived.Test.YtdiekiajedmaeaaAbsLink
import Derived.Test.YtdiekiajedmaeaaAbsVal
set_option linter.all false
namespace Go.Abs
open Go
variable [Inhabited Glob] [Lps]

theorem argOk_bytes {P : Program} {n : Nat} {t e : TypeId} {x : AVal} (ht : P.underlying t = some (.slice e)) (he : P.underlying e = some (.int .u8)) (hc : P.cellsOf e = 1) (h : ArgOk P (n + 2) t x) :
  ∃ (f : SlF) (b : List Nat), x = sv 1 f (b.map fun n => .int .u8 ((n : Nat) : Int)) ∧ b.length < 9223372036854775808 ∧ ∀ n ∈ b, n < 256 := by
 unfold ArgOk at h
 simp only [ht, hc] at h
 rcases h with rfl | ⟨xs, rfl, hl, hx⟩
 ·exact ⟨.nil, [], rfl, by simp, fun n hn => by simp at hn⟩
 ·have hm : ∀ v ∈ xs, ∃ m : Nat, v = .int .u8 ((m : Nat) : Int) ∧ m < 256 := by
   intro v hv
   have := hx v hv
   unfold ArgOk at this
   simp only [he] at this
   obtain ⟨m, rfl, hw⟩ := this
   have e1 : IntKind.u8.min = 0 := by decide
   have e2 : IntKind.u8.max = 255 := by decide
   simp only [Lit.wf, e1, e2, Bool.and_eq_true, decide_eq_true_eq] at hw
   exact ⟨m.toNat, by rw [Int.toNat_of_nonneg hw.1], by omega⟩
  have key : ∀ (l : List AVal), (∀ v ∈ l, ∃ m : Nat, v = .int .u8 ((m : Nat) : Int) ∧ m < 256) → ∃ b : List Nat, l = b.map (fun n => AVal.int .u8 ((n : Nat) : Int)) ∧ ∀ n ∈ b, n < 256 := by
   intro l
   induction l with
   | nil => intro _; exact ⟨[], rfl, fun n hn => by simp at hn⟩
   | cons v l ih =>
    intro h
    obtain ⟨m, rfl, hm⟩ := h v (by simp)
    obtain ⟨b, rfl, hb⟩ := ih fun w hw => h w (by simp [hw])
    refine ⟨m :: b, rfl, fun n hn => ?_⟩
    rcases List.mem_cons.1 hn with rfl | hn
    ·exact hm
    ·exact hb n hn
  obtain ⟨b, rfl, hb⟩ := key xs hm
  refine ⟨.lst, b, (sv_lst _ _).symm, ?_, hb⟩
  simp only [List.length_map, maxLen] at hl
  omega

end Go.Abs
