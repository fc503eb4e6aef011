/- For every list of bytes, CutCausal returns true: whatever lists of commits the bytes describe, causal pasts and the fixed order are as the law says. No condition. -/
import Derived.Test.YtaiibojjndeipaaRows
import Derived.Test.YtaiibojjndeipaaC20FOk
import Derived.Test.YtaiibojjndeipaaAbsCalls
import Derived.Test.YtaiibojjndeipaaAbsLink
import Derived.Test.YtaiibojjndeipaaAbsArg
import Derived.Test.YtaiibojjndeipaaC20Q
import Derived.WalkKit
import Derived.ProofKit
import Derived.OpenShut
import Derived.ShutString
import Derived.ChangeOld
import Derived.Below
import Derived.SizedLaws
set_option linter.all false
namespace Go.Proofs.Ytaiibojjndeipaa.cutCausal
open Go.ChangeShapes Go.WideShapes Go.ChangeAt Go.RowKit
open Go.Abs
theorem own : ownKnob Try.prog.godebug = none := by kernel_rfl
theorem laidOut : laidOutB Try.prog = true := by kernel_rfl
theorem mixed : Try.prog.follows .mixedOrders = true := by kernel_rfl
theorem one_bytes {P : Program} {n m : Nat} (hn : n = m + 2) {t e : TypeId} {ps : Array TypeId} {xs : List AVal} (hp : ps = #[t]) (ht : P.underlying t = some (.slice e)) (he : P.underlying e = some (.int .u8)) (hc : P.cellsOf e = 1)
    (hl : xs.length = ps.toList.length) (hx : ∀ (i : Nat) t x, ps.toList[i]? = some t → xs[i]? = some x → ArgOk P n t x) :
    ∃ (f : SlF) (b : List Nat), xs = [bytesV f b] ∧ b.length < 9223372036854775808 ∧ ∀ k ∈ b, k < 256 := by
  subst hp hn
  obtain ⟨x, rfl⟩ : ∃ x, xs = [x] := by
    match xs, hl with
    | [a], _ => exact ⟨a, rfl⟩
  obtain ⟨f, b, rfl, h1, h2⟩ := argOk_bytes ht he hc (hx 0 t x rfl rfl)
  exact ⟨f, b, rfl, h1, h2⟩
attribute [local irreducible] ArgOk
theorem abs {xs : List AVal} (hl : xs.length = Try.f7.params.toList.length) (hx : ∀ (i : Nat) t x, Try.f7.params.toList[i]? = some t → xs[i]? = some x → ArgOk Try.prog 8 t x) : ∃ n, callW Go.Abs.T n false 7 xs [] [] fun v _ => v = .bool true := by
  obtain ⟨f, b, rfl, h1, h2⟩ := one_bytes (P := Try.prog) (n := 8) (m := 6) rfl Try.params7 Try.underlying22 Try.underlying5 (by kernel_rfl) hl hx
  exact cutCausal_true h1 h2
set_option maxRecDepth 100000 in
theorem lifted (os : Os) (started : os.Started) (H : Type) (enc : TypeId × Value → H) :
    ReturnsInHanded {} Try.checked os 7 .any (Rows.cutCausalSpec.pre6 enc Try.prog Try.f7 Rows.cutCausalRow.domain false) (Rows.cutCausalSpec.post enc Try.prog Try.f7 false true false false) := by
  refine returnsInHanded_of_change_sized (C := Try.checked) own started (by kernel_rfl) Try.func7
    (ChangeSpec.witness6 (enc := enc) (C := Try.checked) false ⟨#[], #[.slice none 0 0], []⟩ 8 (by kernel_rfl) (by kernel_rfl) (by kernel_rfl) (by kernel_rfl)) ?_
  intro W base args ds gs before hval0 hW hcnd hsz0 _
  have hval : ∀ (j : Nat) t v, Try.f7.params[j]? = some t → args[j]? = some v → Value.okWide Try.prog W .any base t v := hval0
  have hW' := hW
  obtain ⟨p, q, hA0, hV, rfl, hfz, hnd⟩ := hW
  have hA : DataW.TrodAll enc Try.prog W 0 (fun _ => true) true Try.f7.params.toList args.toList ds p := hA0
  obtain ⟨rfl, rfl⟩ := trodVars_none hV
  obtain ⟨xs, l1, l2, hx⟩ := open_args (n := 8) hA (by kernel_rfl) (fun j t v g1 g2 => hval j t v (by simpa using g1) (by simpa using g2))
  have har : ArgsRel (frzAll W) noL xs args := ⟨by rw [l1, ← l2]; simp, fun i c hc => by
    have hi : i < Try.f7.params.toList.length := by rw [← l1]; exact (List.getElem?_eq_some_iff.1 hc).1
    have := (hx i _ c (List.getElem?_eq_getElem hi) hc).2
    rw [List.getD_eq_getElem?_getD] at this
    rw [Array.getD_eq_getD_getElem?]; simpa using this⟩
  obtain ⟨n, hn⟩ := abs l1 fun i t x h1 h2 => (hx i t x h1 h2).1
  have hlen := trodAll_len hA
  obtain ⟨d0, rfl⟩ : ∃ d0, ds = [d0] := by
    match ds, hlen with
    | [a], _ => exact ⟨a, rfl⟩
  refine (calls_below mixed T_ok hn har).mono fun e W' ⟨he, bel⟩ => ?_
  subst he
  exact ⟨_, rfl, _, _, _, [], _, [], hW', trodAll_mk1 (shut_bool Try.underlying4 _), trodAll_below laidOut bel (by kernel_rfl) hA, rfl, bel.frame _, fun h => by cases h⟩
theorem over : Rows.cutCausalRow.holds Try.pinned (OpenSpec.ofChange Rows.cutCausalSpec) :=
  OpenClaim.holds_of_wide 7 Try.f7 rfl rfl rfl rfl rfl rfl rfl ⟨rfl, rfl, rfl, rfl, rfl⟩ rfl rfl rfl rfl rfl (by kernel_rfl) Try.func7 (by kernel_rfl)
    (of_decide_eq_true (by kernel_rfl)) (by unfold Func.isWrapper; first | (rw [if_pos (by decide +kernel)]; kernel_rfl) | (rw [if_neg (by decide +kernel)]; exact ⟨rfl, rfl⟩))
    (fun os started H enc _ => lifted os started H enc)
end Go.Proofs.Ytaiibojjndeipaa.cutCausal
namespace Go.Proofs.Ytaiibojjndeipaa
/-- CutCausal returns true for every input. -/
theorem cutCausal_holds : Rows.CutCausalSaid := cutCausal.over
end Go.Proofs.Ytaiibojjndeipaa
