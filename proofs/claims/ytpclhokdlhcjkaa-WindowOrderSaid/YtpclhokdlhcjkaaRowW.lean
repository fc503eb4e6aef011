/- What the rows of this seat have in common: arguments of bytes. -/
import Derived.Test.YtpclhokdlhcjkaaRows
import Derived.Test.YtpclhokdlhcjkaaC42FOk
import Derived.Test.YtpclhokdlhcjkaaJAbsCode
import Derived.Test.YtpclhokdlhcjkaaAbsLink
import Derived.Test.YtpclhokdlhcjkaaAbsArg
import Derived.Test.YtpclhokdlhcjkaaAbsLaw
import Derived.Test.YtpclhokdlhcjkaaJC42A
import Derived.WalkKit
import Derived.ProofKit
import Derived.OpenShut
import Derived.ShutString
import Derived.ChangeOld
import Derived.Below
import Derived.SizedLaws
set_option linter.all false
namespace Go.Proofs.Ytpclhokdlhcjkaa.base
open Go.ChangeShapes Go.WideShapes Go.ChangeAt Go.RowKit
open Go.Abs
theorem own : ownKnob Try.prog.godebug = none := by kernel_rfl
theorem laidOut : laidOutB Try.prog = true := by kernel_rfl
theorem mixed : Try.prog.follows .mixedOrders = true := by kernel_rfl
theorem glOk (F : Frz) : GlOk F := fun g v h => by cases h
theorem arg_u8 {P : Program} {n : Nat} {e : TypeId} {x : AVal} (he : P.underlying e = some (.int .u8)) (h : ArgOk P (n + 1) e x) : ∃ m : Nat, x = .int .u8 ((m : Nat) : Int) ∧ m < 256 := by
 unfold ArgOk at h
 simp only [he] at h
 obtain ⟨m, rfl, hw⟩ := h
 have e1 : IntKind.u8.min = 0 := by decide
 have e2 : IntKind.u8.max = 255 := by decide
 simp only [Lit.wf, e1, e2, Bool.and_eq_true, decide_eq_true_eq] at hw
 exact ⟨m.toNat, by rw [Int.toNat_of_nonneg hw.1], by omega⟩
theorem arg_quad {P : Program} {n : Nat} {t e : TypeId} {x : AVal} (ht : P.underlying t = some (.array 4 e)) (he : P.underlying e = some (.int .u8)) (h : ArgOk P (n + 2) t x) :
  ∃ k : B4, x = b4A k ∧ B4Ok k := by
 unfold ArgOk at h
 simp only [ht] at h
 obtain ⟨xs, rfl, l3, hx⟩ := h
 obtain ⟨z0, z1, z2, z3, rfl⟩ : ∃ z0 z1 z2 z3, xs = [z0, z1, z2, z3] := by
  match xs, l3 with
  | [a, b, c, d], _ => exact ⟨a, b, c, d, rfl⟩
 obtain ⟨a, rfl, ha⟩ := arg_u8 he (hx z0 (by simp)).1
 obtain ⟨b, rfl, hb⟩ := arg_u8 he (hx z1 (by simp)).1
 obtain ⟨c, rfl, hc⟩ := arg_u8 he (hx z2 (by simp)).1
 obtain ⟨d, rfl, hd⟩ := arg_u8 he (hx z3 (by simp)).1
 exact ⟨(a, b, c, d), rfl, ha, hb, hc, hd⟩
theorem arg_quads {P : Program} {n : Nat} {t u e : TypeId} {x : AVal} (ht : P.underlying t = some (.slice u)) (hu : P.underlying u = some (.array 4 e)) (he : P.underlying e = some (.int .u8)) (hc : P.cellsOf u = 4) (h : ArgOk P (n + 3) t x) :
  ∃ (f : SlF) (l : List B4), x = l4A f l ∧ l.length < 9223372036854775808 ∧ ∀ k ∈ l, B4Ok k := by
 unfold ArgOk at h
 simp only [ht, hc] at h
 rcases h with rfl | ⟨xs, rfl, hl, hx⟩
 ·exact ⟨.nil, [], rfl, by simp, fun k hk => by simp at hk⟩
 ·have key : ∀ (l : List AVal), (∀ v ∈ l, ∃ k : B4, v = b4A k ∧ B4Ok k) → ∃ b : List B4, l = b.map (fun x => b4A x) ∧ ∀ k ∈ b, B4Ok k := by
   intro l
   induction l with
   | nil => intro _; exact ⟨[], rfl, fun k hk => by simp at hk⟩
   | cons v l ih =>
    intro h
    obtain ⟨k, rfl, hk⟩ := h v (by simp)
    obtain ⟨b, rfl, hb⟩ := ih fun w hw => h w (by simp [hw])
    refine ⟨k :: b, rfl, fun q hq => ?_⟩
    rcases List.mem_cons.1 hq with rfl | hq
    ·exact hk
    ·exact hb q hq
  obtain ⟨b, rfl, hb⟩ := key xs fun v hv => arg_quad hu he (hx v hv)
  refine ⟨.lst, b, by rw [l4A, sv_lst], ?_, hb⟩
  simp at hl
  unfold maxLen at hl
  omega
theorem opened2 {P : Program} {n m : Nat} (hn : n = m + 3) {t u e : TypeId} {ps : Array TypeId} {xs : List AVal} (hp : ps = #[t, u]) (ht : P.underlying t = some (.slice u)) (hu : P.underlying u = some (.array 4 e)) (he : P.underlying e = some (.int .u8)) (hc : P.cellsOf u = 4)
  (hl : xs.length = ps.toList.length) (hx : ∀ (i : Nat) t x, ps.toList[i]? = some t → xs[i]? = some x → ArgOk P n t x) :
  ∃ (f : SlF) (l : List B4) (q : B4), xs = [l4A f l, b4A q] ∧ l.length < 9223372036854775808 ∧ (∀ k ∈ l, B4Ok k) ∧ B4Ok q := by
 subst hp hn
 obtain ⟨x, y, rfl⟩ : ∃ x y, xs = [x, y] := by
  match xs, hl with
  | [a, b], _ => exact ⟨a, b, rfl⟩
 obtain ⟨f, l, rfl, h1, h2⟩ := arg_quads (n := m) ht hu he hc (hx 0 t x rfl rfl)
 obtain ⟨q, rfl, h3⟩ := arg_quad (n := m + 1) hu he (hx 1 u y rfl rfl)
 exact ⟨f, l, q, rfl, h1, h2, h3⟩
end Go.Proofs.Ytpclhokdlhcjkaa.base
