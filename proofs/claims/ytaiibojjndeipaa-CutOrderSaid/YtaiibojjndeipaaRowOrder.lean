/- For every list of bytes and every three lists of bytes, CutOrder returns true: the fixed order of a closed cut has each commit once, behind its causal past, restricts to lesser closed cuts, and does not depend on the order of the list. No condition. -/
import Derived.Test.YtaiibojjndeipaaRows
import Derived.Test.YtaiibojjndeipaaC20FOk
import Derived.Test.YtaiibojjndeipaaJAbsCode
import Derived.Test.YtaiibojjndeipaaAbsLink
import Derived.Test.YtaiibojjndeipaaAbsArg
import Derived.Test.YtaiibojjndeipaaJC20ZB
import Derived.WalkKit
import Derived.ProofKit
import Derived.OpenShut
import Derived.ShutString
import Derived.ChangeOld
import Derived.Below
import Derived.SizedLaws
set_option linter.all false
namespace Go.Proofs.Ytaiibojjndeipaa.cutOrder
open Go.ChangeShapes Go.WideShapes Go.ChangeAt Go.RowKit
open Go.Abs
theorem own : ownKnob Try.prog.godebug = none := by kernel_rfl
theorem laidOut : laidOutB Try.prog = true := by kernel_rfl
theorem mixed : Try.prog.follows .mixedOrders = true := by kernel_rfl
theorem cells_sv {k : Nat} {f : SlF} {l : List AVal} : (sv k f l).cells = [sv k f l] := by cases f <;> cases l <;> rfl
theorem two_bytes {P : Program} {n m : Nat} (hn : n = m + 3) {t u e : TypeId} {ps : Array TypeId} {xs : List AVal} (hp : ps = #[t, u]) (hu : P.underlying u = some (.array 3 t)) (ht : P.underlying t = some (.slice e)) (he : P.underlying e = some (.int .u8)) (hc : P.cellsOf e = 1)
    (hl : xs.length = ps.toList.length) (hx : ∀ (i : Nat) t x, ps.toList[i]? = some t → xs[i]? = some x → ArgOk P n t x) :
    ∃ (f f0 f1 f2 : SlF) (b k0 k1 k2 : List Nat), xs = [bytesV f b, .agg [bytesV f0 k0, bytesV f1 k1, bytesV f2 k2]] ∧ (b.length < 9223372036854775808 ∧ ∀ k ∈ b, k < 256) ∧ (k0.length < 9223372036854775808 ∧ ∀ k ∈ k0, k < 256) ∧ (k1.length < 9223372036854775808 ∧ ∀ k ∈ k1, k < 256) ∧ (k2.length < 9223372036854775808 ∧ ∀ k ∈ k2, k < 256) := by
  subst hp hn
  obtain ⟨x, y, rfl⟩ : ∃ x y, xs = [x, y] := by
    match xs, hl with
    | [a, b], _ => exact ⟨a, b, rfl⟩
  obtain ⟨f, b, rfl, h1, h2⟩ := argOk_bytes (n := m + 1) ht he hc (hx 0 t x rfl rfl)
  have h3 := hx 1 u y rfl rfl
  unfold ArgOk at h3
  simp only [hu] at h3
  obtain ⟨zs, rfl, l3, h4⟩ := h3
  obtain ⟨z0, z1, z2, rfl⟩ : ∃ z0 z1 z2, zs = [z0, z1, z2] := by
    match zs, l3 with
    | [a, b, c], _ => exact ⟨a, b, c, rfl⟩
  obtain ⟨f0, k0, rfl, g0, g08⟩ := argOk_bytes (n := m) ht he hc (h4 z0 (by simp)).1
  obtain ⟨f1, k1, rfl, g1, g18⟩ := argOk_bytes (n := m) ht he hc (h4 z1 (by simp)).1
  obtain ⟨f2, k2, rfl, g2, g28⟩ := argOk_bytes (n := m) ht he hc (h4 z2 (by simp)).1
  exact ⟨f, f0, f1, f2, b, k0, k1, k2, by simp [flatC, cells_sv], ⟨h1, h2⟩, ⟨g0, g08⟩, ⟨g1, g18⟩, ⟨g2, g28⟩⟩
attribute [local irreducible] ArgOk
theorem abs {xs : List AVal} (hl : xs.length = Try.f6.params.toList.length) (hx : ∀ (i : Nat) t x, Try.f6.params.toList[i]? = some t → xs[i]? = some x → ArgOk Try.prog 8 t x) : ∃ n, callW Go.Abs.T n false 6 xs [] [] fun v _ => v = .bool true := by
  obtain ⟨f, f0, f1, f2, b, k0, k1, k2, rfl, ⟨h1, h2⟩, ⟨g0, g08⟩, ⟨g1, g18⟩, ⟨g2, g28⟩⟩ := two_bytes (P := Try.prog) (n := 8) (m := 5) rfl Try.params6 Try.underlying58 Try.underlying22 Try.underlying5 (by kernel_rfl) hl hx
  exact cutOrder_true h1 h2 g0 g1 g2 g28
set_option maxRecDepth 100000 in
theorem lifted (os : Os) (started : os.Started) (H : Type) (enc : TypeId × Value → H) :
    ReturnsInHanded {} Try.checked os 6 .any (Rows.cutOrderSpec.pre6 enc Try.prog Try.f6 Rows.cutOrderRow.domain false) (Rows.cutOrderSpec.post enc Try.prog Try.f6 false true false false) := by
  refine returnsInHanded_of_change_sized (C := Try.checked) own started (by kernel_rfl) Try.func6
    (ChangeSpec.witness6 (enc := enc) (C := Try.checked) false ⟨#[], #[.slice none 0 0, .agg #[.slice none 0 0, .slice none 0 0, .slice none 0 0]], []⟩ 8 (by kernel_rfl) (by kernel_rfl) (by kernel_rfl) (by kernel_rfl)) ?_
  intro W base args ds gs before hval0 hW hcnd hsz0 _
  have hval : ∀ (j : Nat) t v, Try.f6.params[j]? = some t → args[j]? = some v → Value.okWide Try.prog W .any base t v := hval0
  have hW' := hW
  obtain ⟨p, q, hA0, hV, rfl, hfz, hnd⟩ := hW
  have hA : DataW.TrodAll enc Try.prog W 0 (fun _ => true) true Try.f6.params.toList args.toList ds p := hA0
  obtain ⟨rfl, rfl⟩ := trodVars_none hV
  obtain ⟨xs, l1, l2, hx⟩ := open_args (n := 8) hA (by kernel_rfl) (fun j t v g1 g2 => hval j t v (by simpa using g1) (by simpa using g2))
  have har : ArgsRel (frzAll W) noL xs args := ⟨by rw [l1, ← l2]; simp, fun i c hc => by
    have hi : i < Try.f6.params.toList.length := by rw [← l1]; exact (List.getElem?_eq_some_iff.1 hc).1
    have := (hx i _ c (List.getElem?_eq_getElem hi) hc).2
    rw [List.getD_eq_getElem?_getD] at this
    rw [Array.getD_eq_getD_getElem?]; simpa using this⟩
  obtain ⟨n, hn⟩ := abs l1 fun i t x h1 h2 => (hx i t x h1 h2).1
  have hlen := trodAll_len hA
  obtain ⟨d0, d1, rfl⟩ : ∃ d0 d1, ds = [d0, d1] := by
    match ds, hlen with
    | [a, b], _ => exact ⟨a, b, rfl⟩
  refine (calls_below mixed T_ok hn har).mono fun e W' ⟨he, bel⟩ => ?_
  subst he
  exact ⟨_, rfl, _, _, _, [], _, [], hW', trodAll_mk1 (shut_bool Try.underlying4 _), trodAll_below laidOut bel (by kernel_rfl) hA, rfl, bel.frame _, fun h => by cases h⟩
theorem over : Rows.cutOrderRow.holds Try.pinned (OpenSpec.ofChange Rows.cutOrderSpec) :=
  OpenClaim.holds_of_wide 6 Try.f6 rfl rfl rfl rfl rfl rfl rfl ⟨rfl, rfl, rfl, rfl, rfl⟩ rfl rfl rfl rfl rfl (by kernel_rfl) Try.func6 (by kernel_rfl)
    (of_decide_eq_true (by kernel_rfl)) (by unfold Func.isWrapper; first | (rw [if_pos (by decide +kernel)]; kernel_rfl) | (rw [if_neg (by decide +kernel)]; exact ⟨rfl, rfl⟩))
    (fun os started H enc _ => lifted os started H enc)
end Go.Proofs.Ytaiibojjndeipaa.cutOrder
namespace Go.Proofs.Ytaiibojjndeipaa
/-- CutOrder returns true for every input. -/
theorem cutOrder_holds : Rows.CutOrderSaid := cutOrder.over
end Go.Proofs.Ytaiibojjndeipaa
