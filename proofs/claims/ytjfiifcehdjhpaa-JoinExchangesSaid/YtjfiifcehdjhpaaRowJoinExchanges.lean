/- For every two lists of bytes, every width and every choice of columns, JoinExchanges returns true: the join with the lists exchanged has the same pairs of rows. No condition. -/
import Derived.Test.YtjfiifcehdjhpaaRowJ
import Derived.Test.YtjfiifcehdjhpaaJC40P
set_option linter.all false
namespace Go.Proofs.Ytjfiifcehdjhpaa.joinExchanges
open Go.ChangeShapes Go.WideShapes Go.ChangeAt Go.RowKit
open Go.Abs
open Go.Proofs.Ytjfiifcehdjhpaa.base
theorem opened {P : Program} {n m : Nat} (hn : n = m + 3) {t s e u : TypeId} {ps : Array TypeId} {xs : List AVal} {fs : Array Field} (hp : ps = #[t]) (ht : P.underlying t = some (.struct fs)) (h0 : fs.toList.map (·.type) = [s, s, e, e, u]) (hs : P.underlying s = some (.slice e)) (he : P.underlying e = some (.int .u8)) (hu : P.underlying u = some (.array 2 e)) (hc : P.cellsOf e = 1)
  (hl : xs.length = ps.toList.length) (hx : ∀ (i : Nat) t x, ps.toList[i]? = some t → xs[i]? = some x → ArgOk P n t x) :
  ∃ (z : Cas), xs = [z.v] ∧ z.Ok := by
 subst hp hn
 obtain ⟨x, rfl⟩ : ∃ x, xs = [x] := by
  match xs, hl with
  | [a], _ => exact ⟨a, rfl⟩
 obtain ⟨z, rfl, hz⟩ := arg_case ht h0 hs he hu hc (hx 0 t x rfl rfl)
 exact ⟨z, rfl, hz⟩
set_option maxRecDepth 100000 in
theorem abs {xs : List AVal} (hl : xs.length = Try.f8.params.toList.length) (hx : ∀ (i : Nat) t x, Try.f8.params.toList[i]? = some t → xs[i]? = some x → ArgOk Try.prog 8 t x) : ∃ n, callW Go.Abs.T n false 8 xs [] [] fun v _ => v = .bool true := by
 obtain ⟨z, rfl, hz⟩ := opened (P := Try.prog) (n := 8) (m := 5) (by rfl) (ps := Try.f8.params) (by rfl) Try.underlying25 rfl Try.underlying22 Try.underlying5 Try.underlying23 (by kernel_rfl) hl hx
 exact law_top T_Xq15 (by simp only [go_sem]) ((Xq15_spec hz).2 rfl)

attribute [local irreducible] ArgOk
set_option maxRecDepth 100000 in
theorem lifted (os : Os) (started : os.Started) (H : Type) (enc : TypeId × Value → H) :
  ReturnsInHanded {} Try.checked os 8 .any (Rows.joinExchangesSpec.pre6 enc Try.prog Try.f8 Rows.joinExchangesRow.domain false) (Rows.joinExchangesSpec.post enc Try.prog Try.f8 false true false false) := by
 refine returnsInHanded_of_change_sized (C := Try.checked) own started (by kernel_rfl) Try.func8
  (ChangeSpec.witness6 (enc := enc) (C := Try.checked) false ⟨#[], #[.agg #[.slice none 0 0, .slice none 0 0, .int .u8 0, .int .u8 0, .int .u8 0, .int .u8 0]], []⟩ 8 (by kernel_rfl) (by kernel_rfl) (by kernel_rfl) (by kernel_rfl)) ?_
 intro W base args ds gs before hval0 hW hcnd hsz0 _
 have hval : ∀ (j : Nat) t v, Try.f8.params[j]? = some t → args[j]? = some v → Value.okWide Try.prog W .any base t v := hval0
 have hW' := hW
 obtain ⟨p, q, hA0, hV, rfl, hfz, hnd⟩ := hW
 have hA : DataW.TrodAll enc Try.prog W 0 (fun _ => true) true Try.f8.params.toList args.toList ds p := hA0
 obtain ⟨rfl, rfl⟩ := trodVars_none hV
 obtain ⟨xs, l1, l2, hx⟩ := open_args (n := 8) hA (by kernel_rfl) (fun j t v g1 g2 => hval j t v (by simpa using g1) (by simpa using g2))
 have har : ArgsRel (frzAll W) noL xs args := ⟨by rw [l1, ← l2]; simp, fun i c hc => by
  have hi : i < Try.f8.params.toList.length := by rw [← l1]; exact (List.getElem?_eq_some_iff.1 hc).1
  have := (hx i _ c (List.getElem?_eq_getElem hi) hc).2
  rw [List.getD_eq_getElem?_getD] at this
  rw [Array.getD_eq_getD_getElem?]; simpa using this⟩
 obtain ⟨n, hn⟩ := abs l1 fun i t x h1 h2 => (hx i t x h1 h2).1
 have hlen := trodAll_len hA
 obtain ⟨d0, rfl⟩ : ∃ d0, ds = [d0] := by
  match ds, hlen with
  | [a], _ => exact ⟨a, rfl⟩
 refine (calls_below mixed T_ok hn har (glOk _)).mono fun e W' ⟨he, bel⟩ => ?_
 subst he
 exact ⟨_, rfl, _, _, _, [], _, [], hW', trodAll_mk1 (shut_bool Try.underlying4 _), trodAll_below laidOut bel (by kernel_rfl) hA, rfl, bel.frame _, fun h => by cases h⟩
theorem over : Rows.joinExchangesRow.holds Try.pinned (OpenSpec.ofChange Rows.joinExchangesSpec) :=
 OpenClaim.holds_of_wide 8 Try.f8 rfl rfl rfl rfl rfl rfl rfl ⟨rfl, rfl, rfl, rfl, rfl⟩ rfl rfl rfl rfl rfl (by kernel_rfl) Try.func8 (by kernel_rfl)
  (of_decide_eq_true (by kernel_rfl)) (by unfold Func.isWrapper; first | (rw [if_pos (by decide +kernel)]; kernel_rfl) | (rw [if_neg (by decide +kernel)]; exact ⟨rfl, rfl⟩))
  (fun os started H enc _ => lifted os started H enc)
end Go.Proofs.Ytjfiifcehdjhpaa.joinExchanges
namespace Go.Proofs.Ytjfiifcehdjhpaa
/-- JoinExchanges returns true for every input. -/
theorem joinExchanges_holds : Rows.JoinExchangesSaid := joinExchanges.over
end Go.Proofs.Ytjfiifcehdjhpaa
