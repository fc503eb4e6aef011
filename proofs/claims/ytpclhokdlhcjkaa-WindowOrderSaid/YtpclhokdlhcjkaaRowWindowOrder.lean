/- For every list of quadruples of bytes, every quadruple of bytes and every list of bytes, WindowOrder returns true: if the rows of a table are put into another order, the same rows have the same values, up to the order of equal rows. No condition. -/
import Derived.Test.YtpclhokdlhcjkaaRowW
import Derived.Test.YtpclhokdlhcjkaaJC42R
set_option linter.all false
namespace Go.Proofs.Ytpclhokdlhcjkaa.windowOrder
open Go.ChangeShapes Go.WideShapes Go.ChangeAt Go.RowKit
open Go.Abs
open Go.Proofs.Ytpclhokdlhcjkaa.base
theorem opened {P : Program} {n m : Nat} (hn : n = m + 3) {t u e w : TypeId} {ps : Array TypeId} {xs : List AVal} (hp : ps = #[t, u, w]) (ht : P.underlying t = some (.slice u)) (hu : P.underlying u = some (.array 4 e)) (he : P.underlying e = some (.int .u8)) (hw : P.underlying w = some (.slice e)) (hc : P.cellsOf u = 4) (hc1 : P.cellsOf e = 1)
  (hl : xs.length = ps.toList.length) (hx : ∀ (i : Nat) t x, ps.toList[i]? = some t → xs[i]? = some x → ArgOk P n t x) :
  ∃ (f g : SlF) (l : List B4) (q : B4) (b : List Nat), xs = [l4A f l, b4A q, bytesV g b] ∧ l.length < 9223372036854775808 ∧ (∀ k ∈ l, B4Ok k) ∧ B4Ok q ∧ b.length < 9223372036854775808 ∧ ∀ k ∈ b, k < 256 := by
 subst hp hn
 obtain ⟨x, y, z, rfl⟩ : ∃ x y z, xs = [x, y, z] := by
  match xs, hl with
  | [a, b, c], _ => exact ⟨a, b, c, rfl⟩
 obtain ⟨f, l, rfl, h1, h2⟩ := arg_quads (n := m) ht hu he hc (hx 0 t x rfl rfl)
 obtain ⟨q, rfl, h3⟩ := arg_quad (n := m + 1) hu he (hx 1 u y rfl rfl)
 obtain ⟨g, b, rfl, h4, h5⟩ := argOk_bytes (n := m + 1) hw he hc1 (hx 2 w z rfl rfl)
 exact ⟨f, g, l, q, b, rfl, h1, h2, h3, h4, h5⟩
set_option maxRecDepth 100000 in
theorem abs {xs : List AVal} (hl : xs.length = Try.f7.params.toList.length) (hx : ∀ (i : Nat) t x, Try.f7.params.toList[i]? = some t → xs[i]? = some x → ArgOk Try.prog 8 t x) : ∃ n, callW Go.Abs.T n false 7 xs [] [] fun v _ => v = .bool true := by
 obtain ⟨f, g, l, q, b, rfl, h1, h2, h3, h4, h5⟩ := opened (P := Try.prog) (n := 8) (m := 5) rfl Try.params7 Try.underlying22 Try.underlying40 Try.underlying5 Try.underlying50 (by kernel_rfl) (by kernel_rfl) hl hx
 exact law_top T_X31 (by simp only [go_sem]) ((X31_spec h1 h2 h3 h4 h5).2 rfl)

attribute [local irreducible] ArgOk
set_option maxRecDepth 100000 in
theorem lifted (os : Os) (started : os.Started) (H : Type) (enc : TypeId × Value → H) :
  ReturnsInHanded {} Try.checked os 7 .any (Rows.windowOrderSpec.pre6 enc Try.prog Try.f7 Rows.windowOrderRow.domain false) (Rows.windowOrderSpec.post enc Try.prog Try.f7 false true false false) := by
 refine returnsInHanded_of_change_sized (C := Try.checked) own started (by kernel_rfl) Try.func7
  (ChangeSpec.witness6 (enc := enc) (C := Try.checked) false ⟨#[], #[.slice none 0 0, .agg #[.int .u8 0, .int .u8 0, .int .u8 0, .int .u8 0], .slice none 0 0], []⟩ 8 (by kernel_rfl) (by kernel_rfl) (by kernel_rfl) (by kernel_rfl)) ?_
 intro W base args ds gs before hval0 hW hcnd hsz0 _
 have hval : ∀ (j : Nat) t v, Try.f7.params[j]? = some t → args[j]? = some v → Value.okWide Try.prog W .any base t v := hval0
 have hW' := hW
 obtain ⟨p, q, hA0, hV, rfl, hfz, hnd⟩ := hW
 have hA : DataW.TrodAll enc Try.prog W 0 (fun _ => true) true Try.f7.params.toList args.toList ds p := hA0
 obtain ⟨rfl, rfl⟩ := trodVars_none hV
 obtain ⟨xs, l1, l2, hx⟩ := open_args (n := 8) hA (by kernel_rfl) (fun j t v g1 g2 => hval j t v (by simpa using g1) (by simpa using g2))
 have har : ArgsRel (frzAll W) noL xs args := ⟨by rw [l1, ← l2]; simp, fun i c hc => by
  have hi : i < Try.f7.params.toList.length := by rw [← l1]; exact (List.getElem?_eq_some_iff.1 hc).1
  have := (hx i _ c (List.getElem?_eq_getElem hi) hc).2
  rw [List.getD_eq_getElem?_getD] at this
  rw [Array.getD_eq_getD_getElem?]; simpa using this⟩
 obtain ⟨n, hn⟩ := abs l1 fun i t x h1 h2 => (hx i t x h1 h2).1
 have hlen := trodAll_len hA
 obtain ⟨d0, d1, d2, rfl⟩ : ∃ d0 d1 d2, ds = [d0, d1, d2] := by
  match ds, hlen with
  | [a, b, c], _ => exact ⟨a, b, c, rfl⟩
 refine (calls_below mixed T_ok hn har (glOk _)).mono fun e W' ⟨he, bel⟩ => ?_
 subst he
 exact ⟨_, rfl, _, _, _, [], _, [], hW', trodAll_mk1 (shut_bool Try.underlying4 _), trodAll_below laidOut bel (by kernel_rfl) hA, rfl, bel.frame _, fun h => by cases h⟩
theorem over : Rows.windowOrderRow.holds Try.pinned (OpenSpec.ofChange Rows.windowOrderSpec) :=
 OpenClaim.holds_of_wide 7 Try.f7 rfl rfl rfl rfl rfl rfl rfl ⟨rfl, rfl, rfl, rfl, rfl⟩ rfl rfl rfl rfl rfl (by kernel_rfl) Try.func7 (by kernel_rfl)
  (of_decide_eq_true (by kernel_rfl)) (by unfold Func.isWrapper; first | (rw [if_pos (by decide +kernel)]; kernel_rfl) | (rw [if_neg (by decide +kernel)]; exact ⟨rfl, rfl⟩))
  (fun os started H enc _ => lifted os started H enc)
end Go.Proofs.Ytpclhokdlhcjkaa.windowOrder
namespace Go.Proofs.Ytpclhokdlhcjkaa
/-- WindowOrder returns true for every input. -/
theorem windowOrder_holds : Rows.WindowOrderSaid := windowOrder.over
end Go.Proofs.Ytpclhokdlhcjkaa
