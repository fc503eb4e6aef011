/- For every list of pairs of bytes and every two numbers of reads, CostWorth returns true: with more reads no group stops being worth merging, without reads none is, and what is saved is greater than what merging costs. No condition. -/
import Derived.Test.YtdiekiajedmaeaaRowC
import Derived.Test.YtdiekiajedmaeaaJC36QC
set_option linter.all false
namespace Go.Proofs.Ytdiekiajedmaeaa.costWorth
open Go.ChangeShapes Go.WideShapes Go.ChangeAt Go.RowKit
open Go.Abs
open Go.Proofs.Ytdiekiajedmaeaa.base
set_option maxRecDepth 100000 in
theorem abs {xs : List AVal} (hl : xs.length = Try.f7.params.toList.length) (hx : ∀ (i : Nat) t x, Try.f7.params.toList[i]? = some t → xs[i]? = some x → ZaB Try.prog 8 t x) : ∃ n, ZD Go.Abs.T n false 7 xs [] [] fun v _ => v = .bool true := by
 have hp : Try.f7.params.toList = [22, 52, 52] := by rfl
 rw [hp] at hl hx
 obtain ⟨x, y, w, rfl⟩ : ∃ x y w, xs = [x, y, w] := by
  match xs, hl with
  | [a, b, c], _ => exact ⟨a, b, c, rfl⟩
 obtain ⟨f, z, rfl, hz, hb⟩ := ZnU (P := Try.prog) (n := 5) Try.underlying22 (by kernel_rfl) Try.underlying50 Try.underlying5 (hx 0 22 x rfl rfl)
 obtain ⟨a, rfl, ha⟩ := Zk4 (P := Try.prog) (n := 7) Try.underlying52 (hx 1 52 y rfl rfl)
 obtain ⟨b, rfl, hb2⟩ := Zk4 (P := Try.prog) (n := 7) Try.underlying52 (hx 2 52 w rfl rfl)
 exact Zp4 T_Xq32 (by simp only [go_sem]) ((ZhY hz hb ha hb2).2 rfl)

attribute [local irreducible] ZaB
set_option maxRecDepth 100000 in
theorem lifted (os : Os) (started : os.Started) (H : Type) (enc : TypeId × Value → H) :
  ReturnsInHanded {} Try.checked os 7 .any (Rows.costWorthSpec.pre6 enc Try.prog Try.f7 Rows.costWorthRow.domain false) (Rows.costWorthSpec.post enc Try.prog Try.f7 false true false false) := by
 refine returnsInHanded_of_change_sized (C := Try.checked) own started (by kernel_rfl) Try.func7
  (ChangeSpec.witness6 (enc := enc) (C := Try.checked) false ⟨#[], #[.slice none 0 0, .int .u16 0, .int .u16 0], []⟩ 8 (by kernel_rfl) (by kernel_rfl) (by kernel_rfl) (by kernel_rfl)) ?_
 intro W base args ds gs ZaR hval0 hW hcnd hsz0 _
 have hval : ∀ (j : Nat) t v, Try.f7.params[j]? = some t → args[j]? = some v → Value.okWide Try.prog W .any base t v := hval0
 have hW' := hW
 obtain ⟨p, q, hA0, hV, rfl, hfz, hnd⟩ := hW
 have hA : DataW.TrodAll enc Try.prog W 0 (fun _ => true) true Try.f7.params.toList args.toList ds p := hA0
 obtain ⟨rfl, rfl⟩ := trodVars_none hV
 obtain ⟨xs, l1, l2, hx⟩ := ZhO (n := 8) hA (by kernel_rfl) (fun j t v g1 g2 => hval j t v (by simpa using g1) (by simpa using g2))
 have har : ZK (Za6 W) noL xs args := ⟨by rw [l1, ← l2]; simp, fun i c hc => by
  have hi : i < Try.f7.params.toList.length := by rw [← l1]; exact (List.getElem?_eq_some_iff.1 hc).1
  have := (hx i _ c (List.getElem?_eq_getElem hi) hc).2
  rw [List.getD_eq_getElem?_getD] at this
  rw [Array.getD_eq_getD_getElem?]; simpa using this⟩
 obtain ⟨n, hn⟩ := abs l1 fun i t x h1 h2 => (hx i t x h1 h2).1
 have hlen := ZfQ hA
 obtain ⟨d0, d1, d2, rfl⟩ : ∃ d0 d1 d2, ds = [d0, d1, d2] := by
  match ds, hlen with
  | [a, b, c], _ => exact ⟨a, b, c, rfl⟩
 refine (ZjH mixed T_ok hn har (glOk _)).mono fun e W' ⟨he, bel⟩ => ?_
 subst he
 exact ⟨_, rfl, _, _, _, [], _, [], hW', trodAll_mk1 (shut_bool Try.underlying4 _), Zd8 laidOut bel (by kernel_rfl) hA, rfl, bel.frame _, fun h => by cases h⟩
theorem over : Rows.costWorthRow.holds Try.pinned (OpenSpec.ofChange Rows.costWorthSpec) :=
 OpenClaim.holds_of_wide 7 Try.f7 rfl rfl rfl rfl rfl rfl rfl ⟨rfl, rfl, rfl, rfl, rfl⟩ rfl rfl rfl rfl rfl (by kernel_rfl) Try.func7 (by kernel_rfl)
  (of_decide_eq_true (by kernel_rfl)) (by unfold Func.isWrapper; first | (rw [if_pos (by decide +kernel)]; kernel_rfl) | (rw [if_neg (by decide +kernel)]; exact ⟨rfl, rfl⟩))
  (fun os started H enc _ => lifted os started H enc)
end Go.Proofs.Ytdiekiajedmaeaa.costWorth
namespace Go.Proofs.Ytdiekiajedmaeaa
/-- CostWorth returns true for every input. -/
theorem costWorth_holds : Rows.CostWorthSaid := costWorth.over
end Go.Proofs.Ytdiekiajedmaeaa
