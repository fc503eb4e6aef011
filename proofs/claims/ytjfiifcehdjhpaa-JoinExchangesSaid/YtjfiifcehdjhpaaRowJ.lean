/- What the rows of this seat have in common: the arguments. -/
import Derived.Test.YtjfiifcehdjhpaaRows
import Derived.Test.YtjfiifcehdjhpaaC40FOk
import Derived.Test.YtjfiifcehdjhpaaJAbsCode
import Derived.Test.YtjfiifcehdjhpaaAbsLink
import Derived.Test.YtjfiifcehdjhpaaAbsArg
import Derived.Test.YtjfiifcehdjhpaaJAbsLaw
import Derived.Test.YtjfiifcehdjhpaaJC40A
import Derived.WalkKit
import Derived.ProofKit
import Derived.OpenShut
import Derived.ShutString
import Derived.ChangeOld
import Derived.Below
import Derived.SizedLaws
set_option linter.all false
namespace Go.Proofs.Ytjfiifcehdjhpaa.base
open Go.ChangeShapes Go.WideShapes Go.ChangeAt Go.RowKit
open Go.Abs
theorem own : ownKnob Try.prog.godebug = none := by kernel_rfl
theorem laidOut : laidOutB Try.prog = true := by kernel_rfl
theorem mixed : Try.prog.follows .mixedOrders = true := by kernel_rfl
theorem glOk (F : Frz) : GlOk F := fun g v h => by cases h
theorem arg_u8 {P : Program} {n : Nat} {e : TypeId} {x : AVal} (he : P.underlying e = some (.int .u8)) (h : ArgOk P (n + 1) e x) : ∃ m : Nat, x = .int .u8 ((m : Nat) : Int) ∧ m < 256 := by
 unfold ArgOk at h
 simp only [he] at h
 obtain ⟨m, rfl, hw⟩ := h
 have e1 : IntKind.u8.min = 0 := by decide
 have e2 : IntKind.u8.max = 255 := by decide
 simp only [Lit.wf, e1, e2, Bool.and_eq_true, decide_eq_true_eq] at hw
 exact ⟨m.toNat, by rw [Int.toNat_of_nonneg hw.1], by omega⟩
theorem arg_two {P : Program} {n : Nat} {t e : TypeId} {x : AVal} (ht : P.underlying t = some (.array 2 e)) (he : P.underlying e = some (.int .u8)) (h : ArgOk P (n + 2) t x) :
  ∃ a b : Nat, x = .agg [.int .u8 (a : Int), .int .u8 (b : Int)] ∧ a < 256 ∧ b < 256 := by
 unfold ArgOk at h
 simp only [ht] at h
 obtain ⟨xs, rfl, l2, hx⟩ := h
 obtain ⟨z0, z1, rfl⟩ : ∃ z0 z1, xs = [z0, z1] := by
  match xs, l2 with
  | [a, b], _ => exact ⟨a, b, rfl⟩
 obtain ⟨a, rfl, ha⟩ := arg_u8 he (hx z0 (by simp)).1
 obtain ⟨b, rfl, hb⟩ := arg_u8 he (hx z1 (by simp)).1
 exact ⟨a, b, rfl, ha, hb⟩
theorem arg_case {P : Program} {n : Nat} {t s e u : TypeId} {x : AVal} {fs : Array Field} (ht : P.underlying t = some (.struct fs)) (h0 : fs.toList.map (·.type) = [s, s, e, e, u]) (hs : P.underlying s = some (.slice e)) (he : P.underlying e = some (.int .u8)) (hu : P.underlying u = some (.array 2 e)) (hc : P.cellsOf e = 1) (h : ArgOk P (n + 3) t x) :
  ∃ z : Cas, x = z.v ∧ z.Ok := by
 unfold ArgOk at h
 simp only [ht] at h
 obtain ⟨xs, rfl, hl, hx⟩ := h
 have h5 : fs.size = 5 := by have := congrArg List.length h0; simpa using this
 obtain ⟨a, b, c, d, q, rfl⟩ : ∃ a b c d q, xs = [a, b, c, d, q] := by
  match xs, hl.trans h5 with
  | [a, b, c, d, q], _ => exact ⟨a, b, c, d, q, rfl⟩
 have key : ∀ (i : Nat) w y, [s, s, e, e, u][i]? = some w → [a, b, c, d, q][i]? = some y → ArgOk P (n + 2) w y := by
  intro i w y h1 h2
  rw [← h0, List.getElem?_map] at h1
  cases hf : fs.toList[i]? with
  | none => rw [hf] at h1; cases h1
  | some f =>
   rw [hf] at h1
   cases h1
   exact (hx i f y (by simpa using hf) h2).1
 obtain ⟨fa, A, rfl, p1, p2⟩ := argOk_bytes hs he hc (key 0 s a rfl rfl)
 obtain ⟨fb, B, rfl, p3, p4⟩ := argOk_bytes hs he hc (key 1 s b rfl rfl)
 obtain ⟨wa, rfl, p5⟩ := arg_u8 he (key 2 e c rfl rfl)
 obtain ⟨wb, rfl, p6⟩ := arg_u8 he (key 3 e d rfl rfl)
 obtain ⟨o0, o1, rfl, p7, p8⟩ := arg_two hu he (key 4 u q rfl rfl)
 refine ⟨⟨fa, A, fb, B, wa, wb, o0, o1⟩, ?_, ⟨p1, p3, p2, p4, p5, p6, p7, p8⟩⟩
 have g : ∀ (f : SlF) (l : List AVal), (sv 1 f l).cells = [sv 1 f l] := by
  intro f l
  cases f <;> first | rfl | (simp only [sv]; split <;> rfl)
 simp only [flatC, List.flatMap_cons, List.flatMap_nil, g]
 rfl
end Go.Proofs.Ytjfiifcehdjhpaa.base
