/- For every list of pairs of bytes and every list of numbers, CostChoice returns true: what is chosen depends on the Names alone, each group has at least four pieces, and nothing is chosen if no four pieces are of one level. No condition. -/
import Derived.Test.YtdiekiajedmaeaaRowC
import Derived.Test.YtdiekiajedmaeaaC36QA
set_option linter.all false
namespace Go.Proofs.Ytdiekiajedmaeaa.costChoice
open Go.ChangeShapes Go.WideShapes Go.ChangeAt Go.RowKit
open Go.Abs
open Go.Proofs.Ytdiekiajedmaeaa.base
set_option maxRecDepth 100000 in
theorem abs {xs : List AVal} (hl : xs.length = Try.f8.params.toList.length) (hx : ∀ (i : Nat) t x, Try.f8.params.toList[i]? = some t → xs[i]? = some x → ArgOk Try.prog 8 t x) : ∃ n, callW Go.Abs.T n false 8 xs [] [] fun v _ => v = .bool true := by
 have hp : Try.f8.params.toList = [22, 55] := by rfl
 rw [hp] at hl hx
 obtain ⟨x, y, rfl⟩ : ∃ x y, xs = [x, y] := by
  match xs, hl with
  | [a, b], _ => exact ⟨a, b, rfl⟩
 obtain ⟨f, z, rfl, hz, hb⟩ := arg_twos (P := Try.prog) (n := 5) Try.underlying22 (by kernel_rfl) Try.underlying50 Try.underlying5 (hx 0 22 x rfl rfl)
 obtain ⟨g, w, rfl, hw⟩ := arg_u16s (P := Try.prog) (n := 6) Try.underlying55 (by kernel_rfl) Try.underlying52 (hx 1 55 y rfl rfl)
 exact law_top T_Xq30 (by simp only [go_sem]) ((Xq30_spec hz hb hw).2 rfl)

attribute [local irreducible] ArgOk
set_option maxRecDepth 100000 in
theorem lifted (os : Os) (started : os.Started) (H : Type) (enc : TypeId × Value → H) :
  ReturnsInHanded {} Try.checked os 8 .any (Rows.costChoiceSpec.pre6 enc Try.prog Try.f8 Rows.costChoiceRow.domain false) (Rows.costChoiceSpec.post enc Try.prog Try.f8 false true false false) := by
 refine returnsInHanded_of_change_sized (C := Try.checked) own started (by kernel_rfl) Try.func8
  (ChangeSpec.witness6 (enc := enc) (C := Try.checked) false ⟨#[], #[.slice none 0 0, .slice none 0 0], []⟩ 8 (by kernel_rfl) (by kernel_rfl) (by kernel_rfl) (by kernel_rfl)) ?_
 intro W base args ds gs before hval0 hW hcnd hsz0 _
 have hval : ∀ (j : Nat) t v, Try.f8.params[j]? = some t → args[j]? = some v → Value.okWide Try.prog W .any base t v := hval0
 have hW' := hW
 obtain ⟨p, q, hA0, hV, rfl, hfz, hnd⟩ := hW
 have hA : DataW.TrodAll enc Try.prog W 0 (fun _ => true) true Try.f8.params.toList args.toList ds p := hA0
 obtain ⟨rfl, rfl⟩ := trodVars_none hV
 obtain ⟨xs, l1, l2, hx⟩ := open_args (n := 8) hA (by kernel_rfl) (fun j t v g1 g2 => hval j t v (by simpa using g1) (by simpa using g2))
 have har : ArgsRel (frzAll W) noL xs args := ⟨by rw [l1, ← l2]; simp, fun i c hc => by
  have hi : i < Try.f8.params.toList.length := by rw [← l1]; exact (List.getElem?_eq_some_iff.1 hc).1
  have := (hx i _ c (List.getElem?_eq_getElem hi) hc).2
  rw [List.getD_eq_getElem?_getD] at this
  rw [Array.getD_eq_getD_getElem?]; simpa using this⟩
 obtain ⟨n, hn⟩ := abs l1 fun i t x h1 h2 => (hx i t x h1 h2).1
 have hlen := trodAll_len hA
 obtain ⟨d0, d1, rfl⟩ : ∃ d0 d1, ds = [d0, d1] := by
  match ds, hlen with
  | [a, b], _ => exact ⟨a, b, rfl⟩
 refine (calls_below mixed T_ok hn har (glOk _)).mono fun e W' ⟨he, bel⟩ => ?_
 subst he
 exact ⟨_, rfl, _, _, _, [], _, [], hW', trodAll_mk1 (shut_bool Try.underlying4 _), trodAll_below laidOut bel (by kernel_rfl) hA, rfl, bel.frame _, fun h => by cases h⟩
theorem over : Rows.costChoiceRow.holds Try.pinned (OpenSpec.ofChange Rows.costChoiceSpec) :=
 OpenClaim.holds_of_wide 8 Try.f8 rfl rfl rfl rfl rfl rfl rfl ⟨rfl, rfl, rfl, rfl, rfl⟩ rfl rfl rfl rfl rfl (by kernel_rfl) Try.func8 (by kernel_rfl)
  (of_decide_eq_true (by kernel_rfl)) (by unfold Func.isWrapper; first | (rw [if_pos (by decide +kernel)]; kernel_rfl) | (rw [if_neg (by decide +kernel)]; exact ⟨rfl, rfl⟩))
  (fun os started H enc _ => lifted os started H enc)
end Go.Proofs.Ytdiekiajedmaeaa.costChoice
namespace Go.Proofs.Ytdiekiajedmaeaa
/-- CostChoice returns true for every input. -/
theorem costChoice_holds : Rows.CostChoiceSaid := costChoice.over
end Go.Proofs.Ytdiekiajedmaeaa
