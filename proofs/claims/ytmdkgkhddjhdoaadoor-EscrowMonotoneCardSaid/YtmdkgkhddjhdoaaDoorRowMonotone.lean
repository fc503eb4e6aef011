/- For every two lists of bytes and every list of three bytes, EscrowMonotone returns true: what is possible is possible with greater shares, and the difference stays the same. Condition: the listed table of moves, as the program's own text lays it. -/
import Derived.Test.YtmdkgkhddjhdoaaDoorRowG
import Derived.Test.YtmdkgkhddjhdoaaDoorJAbsLaw
import Derived.Test.YtmdkgkhddjhdoaaDoorJC23L
set_option linter.all false
namespace Go.Proofs.YtmdkgkhddjhdoaaDoor.escrowMonotone
open Go.ChangeShapes Go.WideShapes Go.ChangeAt Go.RowKit
open Go.Abs
open Go.Proofs.YtmdkgkhddjhdoaaDoor.base
theorem opened {P : Program} {n m : Nat} (hn : n = m + 3) {t u w e : TypeId} {ps : Array TypeId} {xs : List AVal} (hp : ps = #[t, t, u]) (hu : P.underlying u = some (.slice w)) (hw : P.underlying w = some (.array 3 e)) (ht : P.underlying t = some (.slice e)) (he : P.underlying e = some (.int .u8)) (hc : P.cellsOf e = 1) (hcw : P.cellsOf w = 3)
    (hl : xs.length = ps.toList.length) (hx : ∀ (i : Nat) t x, ps.toList[i]? = some t → xs[i]? = some x → ArgOk P n t x) :
    ∃ (f f1 f2 : SlF) (b k : List Nat) (l : List Tri), xs = [bytesV f b, bytesV f1 k, trisV f2 l] ∧ b.length < 9223372036854775808 ∧ k.length < 9223372036854775808 ∧ l.length < 9223372036854775808 := by
  subst hp hn
  obtain ⟨x, y, z, rfl⟩ : ∃ x y z, xs = [x, y, z] := by
    match xs, hl with
    | [a, b, c], _ => exact ⟨a, b, c, rfl⟩
  obtain ⟨f, b, rfl, h1, h2⟩ := argOk_bytes (n := m + 1) ht he hc (hx 0 t x rfl rfl)
  obtain ⟨f1, k, rfl, h3, h4⟩ := argOk_bytes (n := m + 1) ht he hc (hx 1 t y rfl rfl)
  obtain ⟨f2, l, rfl, hl'⟩ := arg_tris (n := m) hu hw he hcw (hx 2 u z rfl rfl)
  exact ⟨f, f1, f2, b, k, l, rfl, h1, h3, hl'⟩
set_option maxRecDepth 100000 in
theorem abs {xs : List AVal} (hl : xs.length = Tryd.f6.params.toList.length) (hx : ∀ (i : Nat) t x, Tryd.f6.params.toList[i]? = some t → xs[i]? = some x → ArgOk Tryd.prog 8 t x) : ∃ n, callW Go.Abs.T n false 6 xs [] [] fun v _ => v = .bool true := by
  obtain ⟨f, f1, f2, b, k, l, rfl, h1, h2, h3⟩ := opened (P := Tryd.prog) (n := 8) (m := 5) rfl Tryd.params6 Tryd.underlying23 Tryd.underlying28 Tryd.underlying22 Tryd.underlying5 (by kernel_rfl) (by kernel_rfl) hl hx
  exact law_top T_l23_EscrowMonotone (by simp only [go_sem]) ((l23_EscrowMonotone_true h1 h2 h3).2 rfl)

attribute [local irreducible] ArgOk
set_option maxRecDepth 100000 in
theorem lifted (os : Os) (started : os.Started) (H : Type) (enc : TypeId × Value → H) :
    ReturnsInHanded {} Tryd.checked os 6 .any (fun w args => (Rows.escrowMonotoneSpec.pre enc Tryd.prog Tryd.f6 [] false w args ∧ laidMetH Tryd.prog listed w) ∧ sizedMet enc Tryd.prog Tryd.f6 (OpenSpec.ofChange Rows.escrowMonotoneSpec) false w args)
      (Rows.escrowMonotoneSpec.post enc Tryd.prog Tryd.f6 false true false false) := by
  refine returnsInHanded_of_change_and (C := Tryd.checked) (X := fun w _ => laidMetH Tryd.prog listed w) (fun _ _ _ hh h => h.of_heap hh) own started (by kernel_rfl) Tryd.func6
    (ChangeSpec.witness_shaped (enc := enc) (C := Tryd.checked) (os := os) (X := fun w _ => laidMetH Tryd.prog listed w) false (World.doorLaid Tryd.prog 400 os) #[.slice none 0 0, .slice none 0 0, .slice none 0 0] 8 rfl (World.shaped_of_RefB (by kernel_rfl) (by kernel_rfl)) (by kernel_rfl) (by kernel_rfl) (by kernel_rfl) (door_met os _)) ?_
  intro W base args ds gs before hval0 hW _ _ hL _
  have hval : ∀ (j : Nat) t v, Tryd.f6.params[j]? = some t → args[j]? = some v → Value.okWide Tryd.prog W .any base t v := hval0
  have hW' := hW
  obtain ⟨p, q, hA0, hV, rfl, hfz, hnd⟩ := hW
  have hA : DataW.TrodAll enc Tryd.prog W 0 (fun _ => true) true Tryd.f6.params.toList args.toList ds p := hA0
  obtain ⟨rfl, rfl⟩ := trodVars_none hV
  obtain ⟨xs, l1, l2, hx⟩ := open_args (n := 8) hA (by kernel_rfl) (fun j t v g1 g2 => hval j t v (by simpa using g1) (by simpa using g2))
  have har : ArgsRel (frzAll W) noL xs args := ⟨by rw [l1, ← l2]; simp, fun i c hc => by
    have hi : i < Tryd.f6.params.toList.length := by rw [← l1]; exact (List.getElem?_eq_some_iff.1 hc).1
    have := (hx i _ c (List.getElem?_eq_getElem hi) hc).2
    rw [List.getD_eq_getElem?_getD] at this
    rw [Array.getD_eq_getD_getElem?]; simpa using this⟩
  obtain ⟨n, hn⟩ := abs l1 fun i t x h1 h2 => (hx i t x h1 h2).1
  have hlen := trodAll_len hA
  obtain ⟨d0, d1, d2, rfl⟩ : ∃ d0 d1 d2, ds = [d0, d1, d2] := by
    match ds, hlen with
    | [a, b, c], _ => exact ⟨a, b, c, rfl⟩
  refine (calls_below mixed T_ok hn har (glOk hL)).mono fun e W' ⟨he, bel⟩ => ?_
  subst he
  exact ⟨_, rfl, _, _, _, [], _, [], hW', trodAll_mk1 (shut_bool Tryd.underlying4 _), trodAll_below laidOut bel (by kernel_rfl) hA, rfl, bel.frame _, fun h => by cases h⟩
theorem over : Rows.escrowMonotoneRow.holds Tryd.pinned (OpenSpec.ofChange Rows.escrowMonotoneSpec) :=
  OpenClaim.holds_of_wide 6 Tryd.f6 rfl rfl rfl rfl rfl rfl rfl ⟨rfl, rfl, rfl, rfl, rfl⟩ rfl rfl rfl rfl rfl (by kernel_rfl) Tryd.func6 (by kernel_rfl)
    (of_decide_eq_true (by kernel_rfl)) (by unfold Func.isWrapper; first | (rw [if_pos (by decide +kernel)]; kernel_rfl) | (rw [if_neg (by decide +kernel)]; exact ⟨rfl, rfl⟩))
    (fun os started H enc _ => lifted os started H enc)
theorem plain (f : FuncId) (fn : Func) (hf : Tryd.pinned.checked.prog.funcNamed "chapman/chapmanlaw23.EscrowMonotone" = some f) (hfn : Tryd.pinned.checked.prog.funcs[f]? = some fn) :
    false = Tryd.pinned.checked.prog.looks [] ∧ ∀ (j : Nat) t, fn.params[j]? = some t → Tryd.pinned.checked.prog.wantsStandIn t = false := by
  obtain rfl : f = 6 := Option.some.inj ((show Tryd.prog.funcNamed "chapman/chapmanlaw23.EscrowMonotone" = some 6 by kernel_rfl).symm.trans hf) |>.symm
  obtain rfl : fn = Tryd.f6 := (Option.some.inj (Tryd.func6.symm.trans hfn)).symm
  refine ⟨by kernel_rfl, fun j t ht => ?_⟩
  rw [Tryd.params6] at ht
  have hm : t ∈ [22, 22, 23] := by simpa using Array.mem_of_getElem? ht
  have hall : ([22, 22, 23].all fun u => !Tryd.prog.wantsStandIn u) = true := by kernel_rfl
  exact (show Tryd.prog.wantsStandIn t = false by simpa using List.all_eq_true.1 hall t hm)
end Go.Proofs.YtmdkgkhddjhdoaaDoor.escrowMonotone
namespace Go.Proofs.YtmdkgkhddjhdoaaDoor
/-- EscrowMonotone returns true for every input: the tied card. -/
theorem escrowMonotone_holds : Rows.EscrowMonotoneCardSaid :=
  Claim7.holds_tied_plain_at .later [] _ _ _ _ escrowMonotone.over (fun _ h => by cases h) (by kernel_rfl) (fun _ h => by cases h) escrowMonotone_row_tie rfl ⟨rfl, rfl⟩ (by kernel_rfl) rfl escrowMonotone.plain (by kernel_rfl)
end Go.Proofs.YtmdkgkhddjhdoaaDoor
