/- For every list of quadruples of bytes and every quadruple of bytes, WindowSums returns true: the sum at the last row of a partition is that of all its numbers, and each sum is that at the row ahead and the number of this row. No condition. -/
import Derived.Test.YtpclhokdlhcjkaaRowW
import Derived.Test.YtpclhokdlhcjkaaJC42M
set_option linter.all false
namespace Go.Proofs.Ytpclhokdlhcjkaa.windowSums
open Go.ChangeShapes Go.WideShapes Go.ChangeAt Go.RowKit
open Go.Abs
open Go.Proofs.Ytpclhokdlhcjkaa.base
set_option maxRecDepth 100000 in
theorem abs {xs : List AVal} (hl : xs.length = Try.f6.params.toList.length) (hx : ∀ (i : Nat) t x, Try.f6.params.toList[i]? = some t → xs[i]? = some x → ArgOk Try.prog 8 t x) : ∃ n, callW Go.Abs.T n false 6 xs [] [] fun v _ => v = .bool true := by
 obtain ⟨f, l, q, rfl, h1, h2, h3⟩ := opened2 (P := Try.prog) (n := 8) (m := 5) rfl Try.params6 Try.underlying22 Try.underlying40 Try.underlying5 (by kernel_rfl) hl hx
 exact law_top T_X33 (by simp only [go_sem]) ((X33_spec h1 h2 h3).2 rfl)

attribute [local irreducible] ArgOk
set_option maxRecDepth 100000 in
theorem lifted (os : Os) (started : os.Started) (H : Type) (enc : TypeId × Value → H) :
  ReturnsInHanded {} Try.checked os 6 .any (Rows.windowSumsSpec.pre6 enc Try.prog Try.f6 Rows.windowSumsRow.domain false) (Rows.windowSumsSpec.post enc Try.prog Try.f6 false true false false) := by
 refine returnsInHanded_of_change_sized (C := Try.checked) own started (by kernel_rfl) Try.func6
  (ChangeSpec.witness6 (enc := enc) (C := Try.checked) false ⟨#[], #[.slice none 0 0, .agg #[.int .u8 0, .int .u8 0, .int .u8 0, .int .u8 0]], []⟩ 8 (by kernel_rfl) (by kernel_rfl) (by kernel_rfl) (by kernel_rfl)) ?_
 intro W base args ds gs before hval0 hW hcnd hsz0 _
 have hval : ∀ (j : Nat) t v, Try.f6.params[j]? = some t → args[j]? = some v → Value.okWide Try.prog W .any base t v := hval0
 have hW' := hW
 obtain ⟨p, q, hA0, hV, rfl, hfz, hnd⟩ := hW
 have hA : DataW.TrodAll enc Try.prog W 0 (fun _ => true) true Try.f6.params.toList args.toList ds p := hA0
 obtain ⟨rfl, rfl⟩ := trodVars_none hV
 obtain ⟨xs, l1, l2, hx⟩ := open_args (n := 8) hA (by kernel_rfl) (fun j t v g1 g2 => hval j t v (by simpa using g1) (by simpa using g2))
 have har : ArgsRel (frzAll W) noL xs args := ⟨by rw [l1, ← l2]; simp, fun i c hc => by
  have hi : i < Try.f6.params.toList.length := by rw [← l1]; exact (List.getElem?_eq_some_iff.1 hc).1
  have := (hx i _ c (List.getElem?_eq_getElem hi) hc).2
  rw [List.getD_eq_getElem?_getD] at this
  rw [Array.getD_eq_getD_getElem?]; simpa using this⟩
 obtain ⟨n, hn⟩ := abs l1 fun i t x h1 h2 => (hx i t x h1 h2).1
 have hlen := trodAll_len hA
 obtain ⟨d0, d1, rfl⟩ : ∃ d0 d1, ds = [d0, d1] := by
  match ds, hlen with
  | [a, b], _ => exact ⟨a, b, rfl⟩
 refine (calls_below mixed T_ok hn har (glOk _)).mono fun e W' ⟨he, bel⟩ => ?_
 subst he
 exact ⟨_, rfl, _, _, _, [], _, [], hW', trodAll_mk1 (shut_bool Try.underlying4 _), trodAll_below laidOut bel (by kernel_rfl) hA, rfl, bel.frame _, fun h => by cases h⟩
theorem over : Rows.windowSumsRow.holds Try.pinned (OpenSpec.ofChange Rows.windowSumsSpec) :=
 OpenClaim.holds_of_wide 6 Try.f6 rfl rfl rfl rfl rfl rfl rfl ⟨rfl, rfl, rfl, rfl, rfl⟩ rfl rfl rfl rfl rfl (by kernel_rfl) Try.func6 (by kernel_rfl)
  (of_decide_eq_true (by kernel_rfl)) (by unfold Func.isWrapper; first | (rw [if_pos (by decide +kernel)]; kernel_rfl) | (rw [if_neg (by decide +kernel)]; exact ⟨rfl, rfl⟩))
  (fun os started H enc _ => lifted os started H enc)
end Go.Proofs.Ytpclhokdlhcjkaa.windowSums
namespace Go.Proofs.Ytpclhokdlhcjkaa
/-- WindowSums returns true for every input. -/
theorem windowSums_holds : Rows.WindowSumsSaid := windowSums.over
end Go.Proofs.Ytpclhokdlhcjkaa
