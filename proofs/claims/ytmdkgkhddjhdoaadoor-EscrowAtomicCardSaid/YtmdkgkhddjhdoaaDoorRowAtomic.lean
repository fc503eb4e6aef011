/- For every list of bytes, every list of three bytes and every byte, EscrowAtomic returns true: a commit that is not possible changes nothing; a commit is possible exactly if its parts are, one after the other, with the same result. Condition: the listed table of moves, as the program's own text lays it. -/
import Derived.Test.YtmdkgkhddjhdoaaDoorRowG
import Derived.Test.YtmdkgkhddjhdoaaDoorJAbsLaw
import Derived.Test.YtmdkgkhddjhdoaaDoorC23O
set_option linter.all false
namespace Go.Proofs.YtmdkgkhddjhdoaaDoor.escrowAtomic
open Go.ChangeShapes Go.WideShapes Go.ChangeAt Go.RowKit
open Go.Abs
open Go.Proofs.YtmdkgkhddjhdoaaDoor.base
theorem opened {P : Program} {n m : Nat} (hn : n = m + 3) {t u w e : TypeId} {ps : Array TypeId} {xs : List AVal} (hp : ps = #[t, u, e]) (hu : P.underlying u = some (.slice w)) (hw : P.underlying w = some (.array 3 e)) (ht : P.underlying t = some (.slice e)) (he : P.underlying e = some (.int .u8)) (hc : P.cellsOf e = 1) (hcw : P.cellsOf w = 3)
    (hl : xs.length = ps.toList.length) (hx : ∀ (i : Nat) t x, ps.toList[i]? = some t → xs[i]? = some x → ArgOk P n t x) :
    ∃ (f f1 : SlF) (b : List Nat) (l : List Tri) (k : Nat), xs = [bytesV f b, trisV f1 l, .int .u8 (k : Int)] ∧ b.length < 9223372036854775808 ∧ l.length < 9223372036854775808 ∧ k < 256 := by
  subst hp hn
  obtain ⟨x, y, z, rfl⟩ : ∃ x y z, xs = [x, y, z] := by
    match xs, hl with
    | [a, b, c], _ => exact ⟨a, b, c, rfl⟩
  obtain ⟨f, b, rfl, h1, h2⟩ := argOk_bytes (n := m + 1) ht he hc (hx 0 t x rfl rfl)
  obtain ⟨f1, l, rfl, hl'⟩ := arg_tris (n := m) hu hw he hcw (hx 1 u y rfl rfl)
  obtain ⟨k, rfl, hk⟩ := arg_u8 (n := m + 2) he (hx 2 e z rfl rfl)
  exact ⟨f, f1, b, l, k, rfl, h1, hl', hk⟩
set_option maxRecDepth 100000 in
theorem abs {xs : List AVal} (hl : xs.length = Tryd.f7.params.toList.length) (hx : ∀ (i : Nat) t x, Tryd.f7.params.toList[i]? = some t → xs[i]? = some x → ArgOk Tryd.prog 8 t x) : ∃ n, callW Go.Abs.T n false 7 xs [] [] fun v _ => v = .bool true := by
  obtain ⟨f, f1, b, l, k, rfl, h1, h2, h3⟩ := opened (P := Tryd.prog) (n := 8) (m := 5) rfl Tryd.params7 Tryd.underlying23 Tryd.underlying28 Tryd.underlying22 Tryd.underlying5 (by kernel_rfl) (by kernel_rfl) hl hx
  exact law_top T_l23_EscrowAtomic (by simp only [go_sem]) ((l23_EscrowAtomic_true h1 h2 h3).2 rfl)

attribute [local irreducible] ArgOk
set_option maxRecDepth 100000 in
theorem lifted (os : Os) (started : os.Started) (H : Type) (enc : TypeId × Value → H) :
    ReturnsInHanded {} Tryd.checked os 7 .any (fun w args => (Rows.escrowAtomicSpec.pre enc Tryd.prog Tryd.f7 [] false w args ∧ laidMetH Tryd.prog listed w) ∧ sizedMet enc Tryd.prog Tryd.f7 (OpenSpec.ofChange Rows.escrowAtomicSpec) false w args)
      (Rows.escrowAtomicSpec.post enc Tryd.prog Tryd.f7 false true false false) := by
  refine returnsInHanded_of_change_and (C := Tryd.checked) (X := fun w _ => laidMetH Tryd.prog listed w) (fun _ _ _ hh h => h.of_heap hh) own started (by kernel_rfl) Tryd.func7
    (ChangeSpec.witness_shaped (enc := enc) (C := Tryd.checked) (os := os) (X := fun w _ => laidMetH Tryd.prog listed w) false (World.doorLaid Tryd.prog 400 os) #[.slice none 0 0, .slice none 0 0, .int .u8 0] 8 rfl (World.shaped_of_RefB (by kernel_rfl) (by kernel_rfl)) (by kernel_rfl) (by kernel_rfl) (by kernel_rfl) (door_met os _)) ?_
  intro W base args ds gs before hval0 hW _ _ hL _
  have hval : ∀ (j : Nat) t v, Tryd.f7.params[j]? = some t → args[j]? = some v → Value.okWide Tryd.prog W .any base t v := hval0
  have hW' := hW
  obtain ⟨p, q, hA0, hV, rfl, hfz, hnd⟩ := hW
  have hA : DataW.TrodAll enc Tryd.prog W 0 (fun _ => true) true Tryd.f7.params.toList args.toList ds p := hA0
  obtain ⟨rfl, rfl⟩ := trodVars_none hV
  obtain ⟨xs, l1, l2, hx⟩ := open_args (n := 8) hA (by kernel_rfl) (fun j t v g1 g2 => hval j t v (by simpa using g1) (by simpa using g2))
  have har : ArgsRel (frzAll W) noL xs args := ⟨by rw [l1, ← l2]; simp, fun i c hc => by
    have hi : i < Tryd.f7.params.toList.length := by rw [← l1]; exact (List.getElem?_eq_some_iff.1 hc).1
    have := (hx i _ c (List.getElem?_eq_getElem hi) hc).2
    rw [List.getD_eq_getElem?_getD] at this
    rw [Array.getD_eq_getD_getElem?]; simpa using this⟩
  obtain ⟨n, hn⟩ := abs l1 fun i t x h1 h2 => (hx i t x h1 h2).1
  have hlen := trodAll_len hA
  obtain ⟨d0, d1, d2, rfl⟩ : ∃ d0 d1 d2, ds = [d0, d1, d2] := by
    match ds, hlen with
    | [a, b, c], _ => exact ⟨a, b, c, rfl⟩
  refine (calls_below mixed T_ok hn har (glOk hL)).mono fun e W' ⟨he, bel⟩ => ?_
  subst he
  exact ⟨_, rfl, _, _, _, [], _, [], hW', trodAll_mk1 (shut_bool Tryd.underlying4 _), trodAll_below laidOut bel (by kernel_rfl) hA, rfl, bel.frame _, fun h => by cases h⟩
theorem over : Rows.escrowAtomicRow.holds Tryd.pinned (OpenSpec.ofChange Rows.escrowAtomicSpec) :=
  OpenClaim.holds_of_wide 7 Tryd.f7 rfl rfl rfl rfl rfl rfl rfl ⟨rfl, rfl, rfl, rfl, rfl⟩ rfl rfl rfl rfl rfl (by kernel_rfl) Tryd.func7 (by kernel_rfl)
    (of_decide_eq_true (by kernel_rfl)) (by unfold Func.isWrapper; first | (rw [if_pos (by decide +kernel)]; kernel_rfl) | (rw [if_neg (by decide +kernel)]; exact ⟨rfl, rfl⟩))
    (fun os started H enc _ => lifted os started H enc)
theorem plain (f : FuncId) (fn : Func) (hf : Tryd.pinned.checked.prog.funcNamed "chapman/chapmanlaw23.EscrowAtomic" = some f) (hfn : Tryd.pinned.checked.prog.funcs[f]? = some fn) :
    false = Tryd.pinned.checked.prog.looks [] ∧ ∀ (j : Nat) t, fn.params[j]? = some t → Tryd.pinned.checked.prog.wantsStandIn t = false := by
  obtain rfl : f = 7 := Option.some.inj ((show Tryd.prog.funcNamed "chapman/chapmanlaw23.EscrowAtomic" = some 7 by kernel_rfl).symm.trans hf) |>.symm
  obtain rfl : fn = Tryd.f7 := (Option.some.inj (Tryd.func7.symm.trans hfn)).symm
  refine ⟨by kernel_rfl, fun j t ht => ?_⟩
  rw [Tryd.params7] at ht
  have hm : t ∈ [22, 23, 5] := by simpa using Array.mem_of_getElem? ht
  have hall : ([22, 23, 5].all fun u => !Tryd.prog.wantsStandIn u) = true := by kernel_rfl
  exact (show Tryd.prog.wantsStandIn t = false by simpa using List.all_eq_true.1 hall t hm)
end Go.Proofs.YtmdkgkhddjhdoaaDoor.escrowAtomic
namespace Go.Proofs.YtmdkgkhddjhdoaaDoor
/-- EscrowAtomic returns true for every input: the tied card. -/
theorem escrowAtomic_holds : Rows.EscrowAtomicCardSaid :=
  Claim7.holds_tied_plain_at .later [] _ _ _ _ escrowAtomic.over (fun _ h => by cases h) (by kernel_rfl) (fun _ h => by cases h) escrowAtomic_row_tie rfl ⟨rfl, rfl⟩ (by kernel_rfl) rfl escrowAtomic.plain (by kernel_rfl)
end Go.Proofs.YtmdkgkhddjhdoaaDoor
