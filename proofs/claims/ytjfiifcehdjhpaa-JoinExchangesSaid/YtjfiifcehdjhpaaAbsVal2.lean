/- Values of a walk: more. -/
import Derived.Test.YtjfiifcehdjhpaaAbsVal
set_option linter.all false
namespace Go.Abs
open Go
section
variable {σ : Sto}
theorem slice_take {kd : IntKind} {k n : Nat} {xs : List AVal} (h : n ≤ xs.length) : sliceV k (.list k xs) none (some (.int kd (n : Int))) none σ = some (.list k (xs.take n), σ) := by
 simp only [sliceV, bnd, natOf_nat, Nat.zero_le, h, Nat.le_refl, and_self, if_true, Option.isSome_none, and_false, Bool.false_eq_true, if_false, List.drop_zero]
theorem slice_drop {kd : IntKind} {k n : Nat} {xs : List AVal} (h : n ≤ xs.length) : sliceV k (.list k xs) (some (.int kd (n : Int))) none none σ = some (.list k (xs.drop n), σ) := by
 simp only [sliceV, bnd, natOf_nat, Nat.zero_le, h, Nat.le_refl, and_self, if_true, Option.isSome_none, and_false, Bool.false_eq_true, if_false, List.take_length]
theorem slice_mid {kd kd' : IntKind} {k n m : Nat} {xs : List AVal} (h1 : n ≤ m) (h : m ≤ xs.length) : sliceV k (.list k xs) (some (.int kd (n : Int))) (some (.int kd' (m : Int))) none σ = some (.list k ((xs.take m).drop n), σ) := by
 simp only [sliceV, bnd, natOf_nat, h1, h, Nat.le_refl, and_self, if_true, Option.isSome_none, and_false, Bool.false_eq_true, if_false]

theorem slice_sv_take {α : Type} {g : α → AVal} {l : List α} {kd : IntKind} {k n : Nat} (h : n ≤ l.length) : sliceV k (sv k .lst (l.map g)) none (some (.int kd (n : Int))) none σ = some (sv k .lst ((l.take n).map g), σ) := by
 rw [sv_lst, slice_take (by rw [List.length_map]; exact h), ← List.map_take, sv_lst]
theorem slice_sv_drop {α : Type} {g : α → AVal} {l : List α} {kd : IntKind} {k n : Nat} (h : n ≤ l.length) : sliceV k (sv k .lst (l.map g)) (some (.int kd (n : Int))) none none σ = some (sv k .lst ((l.drop n).map g), σ) := by
 rw [sv_lst, slice_drop (by rw [List.length_map]; exact h), ← List.map_drop, sv_lst]

end
end Go.Abs
