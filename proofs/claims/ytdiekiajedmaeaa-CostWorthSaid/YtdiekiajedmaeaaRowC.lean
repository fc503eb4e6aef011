/- What the rows of this seat have in common: the arguments. -/
import Derived.Test.YtdiekiajedmaeaaRows
import Derived.Test.YtdiekiajedmaeaaC36FOk
import Derived.Test.YtdiekiajedmaeaaJAbsCode
import Derived.Test.YtdiekiajedmaeaaAbsLink
import Derived.Test.YtdiekiajedmaeaaAbsArg
import Derived.Test.YtdiekiajedmaeaaJAbsLaw
import Derived.Test.YtdiekiajedmaeaaJC36A
import Derived.WalkKit
import Derived.ProofKit
import Derived.OpenShut
import Derived.ShutString
import Derived.ChangeOld
import Derived.Below
import Derived.SizedLaws
set_option linter.all false
namespace Go.Proofs.Ytdiekiajedmaeaa.base
open Go.ChangeShapes Go.WideShapes Go.ChangeAt Go.RowKit
open Go.Abs
theorem own : ownKnob Try.prog.godebug = none := by kernel_rfl
theorem laidOut : laidOutB Try.prog = true := by kernel_rfl
theorem mixed : Try.prog.follows .mixedOrders = true := by kernel_rfl
theorem glOk (F : Frz) : Ziv F := fun g v h => by cases h
theorem ZnT {P : Program} {n : Nat} {e : TypeId} {x : AVal} (he : P.underlying e = some (.int .u8)) (h : ZaB P (n + 1) e x) : ∃ m : Nat, x = .int .u8 ((m : Nat) : Int) ∧ m < 256 := by
 unfold ZaB at h
 simp only [he] at h
 obtain ⟨m, rfl, hw⟩ := h
 have e1 : IntKind.u8.min = 0 := by decide
 have e2 : IntKind.u8.max = 255 := by decide
 simp only [Lit.wf, e1, e2, Bool.and_eq_true, decide_eq_true_eq] at hw
 exact ⟨m.toNat, by rw [Int.toNat_of_nonneg hw.1], by omega⟩
theorem Zpv {P : Program} {n : Nat} {t e : TypeId} {x : AVal} (ht : P.underlying t = some (.array 2 e)) (he : P.underlying e = some (.int .u8)) (h : ZaB P (n + 2) t x) :
  ∃ a b : Nat, x = .agg [.int .u8 (a : Int), .int .u8 (b : Int)] ∧ a < 256 ∧ b < 256 := by
 unfold ZaB at h
 simp only [ht] at h
 obtain ⟨xs, rfl, l2, hx⟩ := h
 obtain ⟨z0, z1, rfl⟩ : ∃ z0 z1, xs = [z0, z1] := by
  match xs, l2 with
  | [a, b], _ => exact ⟨a, b, rfl⟩
 obtain ⟨a, rfl, ha⟩ := ZnT he (hx z0 (by simp)).1
 obtain ⟨b, rfl, hb⟩ := ZnT he (hx z1 (by simp)).1
 exact ⟨a, b, rfl, ha, hb⟩
theorem ZnU {P : Program} {n : Nat} {s t e : TypeId} {x : AVal} (hs : P.underlying s = some (.slice t)) (hc : P.cellsOf t = 2) (ht : P.underlying t = some (.array 2 e)) (he : P.underlying e = some (.int .u8)) (h : ZaB P (n + 3) s x) :
  ∃ (f : SlF) (z : List (Nat × Nat)), x = ZgX f z ∧ z.length < 9223372036854775808 ∧ ∀ p ∈ z, p.1 < 256 ∧ p.2 < 256 := by
 unfold ZaB at h
 simp only [hs, hc] at h
 rcases h with rfl | ⟨xs, rfl, hn, hx⟩
 ·exact ⟨.nil, [], rfl, by simp, fun p hp => by simp at hp⟩
 ·have key : ∀ xs : List AVal, (∀ x ∈ xs, ZaB P (n + 2) t x) → ∃ z : List (Nat × Nat), xs = z.map (fun p => AVal.agg [.int .u8 (p.1 : Int), .int .u8 (p.2 : Int)]) ∧ ∀ p ∈ z, p.1 < 256 ∧ p.2 < 256 := by
   intro xs
   induction xs with
   | nil => intro _; exact ⟨[], rfl, fun p hp => by simp at hp⟩
   | cons x xs ih =>
    intro hx
    obtain ⟨a, b, rfl, ha, hb⟩ := Zpv ht he (hx x List.mem_cons_self)
    obtain ⟨z, rfl, hz⟩ := ih fun y hy => hx y (List.mem_cons_of_mem _ hy)
    exact ⟨(a, b) :: z, rfl, fun p hp => by
     rcases List.mem_cons.1 hp with rfl | hp
     ·exact ⟨ha, hb⟩
     ·exact hz p hp⟩
  obtain ⟨z, rfl, hz⟩ := key xs hx
  rw [List.length_map] at hn
  exact ⟨.lst, z, by rw [ZgX, sv_lst], by simp only [maxLen] at hn; omega, hz⟩
theorem Zk4 {P : Program} {n : Nat} {e : TypeId} {x : AVal} (he : P.underlying e = some (.int .u16)) (h : ZaB P (n + 1) e x) : ∃ m : Nat, x = .int .u16 ((m : Nat) : Int) ∧ m < 65536 := by
 unfold ZaB at h
 simp only [he] at h
 obtain ⟨m, rfl, hw⟩ := h
 have e1 : IntKind.u16.min = 0 := by decide
 have e2 : IntKind.u16.max = 65535 := by decide
 simp only [Lit.wf, e1, e2, Bool.and_eq_true, decide_eq_true_eq] at hw
 exact ⟨m.toNat, by rw [Int.toNat_of_nonneg hw.1], by omega⟩
end Go.Proofs.Ytdiekiajedmaeaa.base
