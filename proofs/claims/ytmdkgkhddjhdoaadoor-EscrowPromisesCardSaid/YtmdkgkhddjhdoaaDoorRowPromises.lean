/- For every list of bytes, every list of three bytes and every three lists of bytes, EscrowPromises returns true: commits of which each is covered when it is made are all done in every play of a closed cut. Condition: the listed table of moves, as the program's own text lays it. -/
import Derived.Test.YtmdkgkhddjhdoaaDoorRowG
import Derived.Test.YtmdkgkhddjhdoaaDoorJAbsLaw
import Derived.Test.YtmdkgkhddjhdoaaDoorJC23SA
set_option linter.all false
namespace Go.Proofs.YtmdkgkhddjhdoaaDoor.escrowPromises
open Go.ChangeShapes Go.WideShapes Go.ChangeAt Go.RowKit
open Go.Abs
open Go.Proofs.YtmdkgkhddjhdoaaDoor.base
theorem opened {P : Program} {n : Nat} {t u v w e : TypeId} {ps : Array TypeId} {xs : List AVal} (hp : ps = #[t, u, v]) (hv : P.underlying v = some (.array 3 t)) (hu : P.underlying u = some (.slice w)) (hw : P.underlying w = some (.array 3 e)) (ht : P.underlying t = some (.slice e)) (he : P.underlying e = some (.int .u8)) (hc : P.cellsOf e = 1) (hcw : P.cellsOf w = 3)
    (hl : xs.length = ps.toList.length) (hx : ∀ (i : Nat) t x, ps.toList[i]? = some t → xs[i]? = some x → ArgOk P (n + 3) t x) :
    ∃ (f g f0 f1 f2 : SlF) (x : List Nat) (b : List Tri) (k0 k1 k2 : List Nat), xs = [bytesV f x, trisV g b, .agg [bytesV f0 k0, bytesV f1 k1, bytesV f2 k2]] ∧ Fits x ∧ (∀ n ∈ x, n < 256) ∧ Fits b ∧ Fits k0 ∧ (∀ n ∈ k0, n < 256) ∧ Fits k1 ∧ (∀ n ∈ k1, n < 256) ∧ Fits k2 ∧ (∀ n ∈ k2, n < 256) := by
  subst hp
  obtain ⟨x, y, z, rfl⟩ : ∃ x y z, xs = [x, y, z] := by
    match xs, hl with
    | [a, b, c], _ => exact ⟨a, b, c, rfl⟩
  obtain ⟨f, x, rfl, h1, h2⟩ := argOk_bytes (n := n + 1) ht he hc (hx 0 t x rfl rfl)
  obtain ⟨g, b, rfl, hb⟩ := arg_tris (n := n) hu hw he hcw (hx 1 u y rfl rfl)
  have h3 := hx 2 v z rfl rfl
  unfold ArgOk at h3
  simp only [hv] at h3
  obtain ⟨ys, rfl, l3, hy⟩ := h3
  obtain ⟨y0, y1, y2, rfl⟩ : ∃ z0 z1 z2, ys = [z0, z1, z2] := by
    match ys, l3 with
    | [a, b, c], _ => exact ⟨a, b, c, rfl⟩
  obtain ⟨f0, k0, rfl, a0, b0⟩ := argOk_bytes (n := n) ht he hc (hy y0 (by simp)).1
  obtain ⟨f1, k1, rfl, a1, b1⟩ := argOk_bytes (n := n) ht he hc (hy y1 (by simp)).1
  obtain ⟨f2, k2, rfl, a2, b2⟩ := argOk_bytes (n := n) ht he hc (hy y2 (by simp)).1
  refine ⟨f, g, f0, f1, f2, x, b, k0, k1, k2, ?_, h1, h2, hb, a0, b0, a1, b1, a2, b2⟩
  simp only [flatC, List.flatMap_cons, List.flatMap_nil, sv_cells]
  rfl
set_option maxRecDepth 100000 in
theorem abs {xs : List AVal} (hl : xs.length = Tryd.f8.params.toList.length) (hx : ∀ (i : Nat) t x, Tryd.f8.params.toList[i]? = some t → xs[i]? = some x → ArgOk Tryd.prog 8 t x) : ∃ n, callW Go.Abs.T n false 8 xs [] [] fun v _ => v = .bool true := by
  obtain ⟨f, g, f0, f1, f2, x, b, k0, k1, k2, rfl, h1, h2, h3, h4, h5, h6, h7, h8, h9⟩ := opened (P := Tryd.prog) (n := 5) Tryd.params8 Tryd.underlying72 Tryd.underlying23 Tryd.underlying28 Tryd.underlying22 Tryd.underlying5 (by kernel_rfl) (by kernel_rfl) hl hx
  exact law_top T_l23_EscrowPromises (by simp only [go_sem]) ((l23_EscrowPromises_true h1 h2 h3 h4 h5 h6 h7 h8 h9).2 rfl)

attribute [local irreducible] ArgOk
set_option maxRecDepth 100000 in
theorem lifted (os : Os) (started : os.Started) (H : Type) (enc : TypeId × Value → H) :
    ReturnsInHanded {} Tryd.checked os 8 .any (fun w args => (Rows.escrowPromisesSpec.pre enc Tryd.prog Tryd.f8 [] false w args ∧ laidMetH Tryd.prog listed w) ∧ sizedMet enc Tryd.prog Tryd.f8 (OpenSpec.ofChange Rows.escrowPromisesSpec) false w args)
      (Rows.escrowPromisesSpec.post enc Tryd.prog Tryd.f8 false true false false) := by
  refine returnsInHanded_of_change_and (C := Tryd.checked) (X := fun w _ => laidMetH Tryd.prog listed w) (fun _ _ _ hh h => h.of_heap hh) own started (by kernel_rfl) Tryd.func8
    (ChangeSpec.witness_shaped (enc := enc) (C := Tryd.checked) (os := os) (X := fun w _ => laidMetH Tryd.prog listed w) false (World.doorLaid Tryd.prog 400 os) #[.slice none 0 0, .slice none 0 0, .agg #[.slice none 0 0, .slice none 0 0, .slice none 0 0]] 8 rfl (World.shaped_of_RefB (by kernel_rfl) (by kernel_rfl)) (by kernel_rfl) (by kernel_rfl) (by kernel_rfl) (door_met os _)) ?_
  intro W base args ds gs before hval0 hW _ _ hL _
  have hval : ∀ (j : Nat) t v, Tryd.f8.params[j]? = some t → args[j]? = some v → Value.okWide Tryd.prog W .any base t v := hval0
  have hW' := hW
  obtain ⟨p, q, hA0, hV, rfl, hfz, hnd⟩ := hW
  have hA : DataW.TrodAll enc Tryd.prog W 0 (fun _ => true) true Tryd.f8.params.toList args.toList ds p := hA0
  obtain ⟨rfl, rfl⟩ := trodVars_none hV
  obtain ⟨xs, l1, l2, hx⟩ := open_args (n := 8) hA (by kernel_rfl) (fun j t v g1 g2 => hval j t v (by simpa using g1) (by simpa using g2))
  have har : ArgsRel (frzAll W) noL xs args := ⟨by rw [l1, ← l2]; simp, fun i c hc => by
    have hi : i < Tryd.f8.params.toList.length := by rw [← l1]; exact (List.getElem?_eq_some_iff.1 hc).1
    have := (hx i _ c (List.getElem?_eq_getElem hi) hc).2
    rw [List.getD_eq_getElem?_getD] at this
    rw [Array.getD_eq_getD_getElem?]; simpa using this⟩
  obtain ⟨n, hn⟩ := abs l1 fun i t x h1 h2 => (hx i t x h1 h2).1
  have hlen := trodAll_len hA
  obtain ⟨d0, d1, d2, rfl⟩ : ∃ d0 d1 d2, ds = [d0, d1, d2] := by
    match ds, hlen with
    | [a, b, c], _ => exact ⟨a, b, c, rfl⟩
  refine (calls_below mixed T_ok hn har (glOk hL)).mono fun e W' ⟨he, bel⟩ => ?_
  subst he
  exact ⟨_, rfl, _, _, _, [], _, [], hW', trodAll_mk1 (shut_bool Tryd.underlying4 _), trodAll_below laidOut bel (by kernel_rfl) hA, rfl, bel.frame _, fun h => by cases h⟩
theorem over : Rows.escrowPromisesRow.holds Tryd.pinned (OpenSpec.ofChange Rows.escrowPromisesSpec) :=
  OpenClaim.holds_of_wide 8 Tryd.f8 rfl rfl rfl rfl rfl rfl rfl ⟨rfl, rfl, rfl, rfl, rfl⟩ rfl rfl rfl rfl rfl (by kernel_rfl) Tryd.func8 (by kernel_rfl)
    (of_decide_eq_true (by kernel_rfl)) (by unfold Func.isWrapper; first | (rw [if_pos (by decide +kernel)]; kernel_rfl) | (rw [if_neg (by decide +kernel)]; exact ⟨rfl, rfl⟩))
    (fun os started H enc _ => lifted os started H enc)
theorem plain (f : FuncId) (fn : Func) (hf : Tryd.pinned.checked.prog.funcNamed "chapman/chapmanlaw23.EscrowPromises" = some f) (hfn : Tryd.pinned.checked.prog.funcs[f]? = some fn) :
    false = Tryd.pinned.checked.prog.looks [] ∧ ∀ (j : Nat) t, fn.params[j]? = some t → Tryd.pinned.checked.prog.wantsStandIn t = false := by
  obtain rfl : f = 8 := Option.some.inj ((show Tryd.prog.funcNamed "chapman/chapmanlaw23.EscrowPromises" = some 8 by kernel_rfl).symm.trans hf) |>.symm
  obtain rfl : fn = Tryd.f8 := (Option.some.inj (Tryd.func8.symm.trans hfn)).symm
  refine ⟨by kernel_rfl, fun j t ht => ?_⟩
  rw [Tryd.params8] at ht
  have hm : t ∈ [22, 23, 72] := by simpa using Array.mem_of_getElem? ht
  have hall : ([22, 23, 72].all fun u => !Tryd.prog.wantsStandIn u) = true := by kernel_rfl
  exact (show Tryd.prog.wantsStandIn t = false by simpa using List.all_eq_true.1 hall t hm)
end Go.Proofs.YtmdkgkhddjhdoaaDoor.escrowPromises
namespace Go.Proofs.YtmdkgkhddjhdoaaDoor
/-- EscrowPromises returns true for every input: the tied card. -/
theorem escrowPromises_holds : Rows.EscrowPromisesCardSaid :=
  Claim7.holds_tied_plain_at .later [] _ _ _ _ escrowPromises.over (fun _ h => by cases h) (by kernel_rfl) (fun _ h => by cases h) escrowPromises_row_tie rfl ⟨rfl, rfl⟩ (by kernel_rfl) rfl escrowPromises.plain (by kernel_rfl)
end Go.Proofs.YtmdkgkhddjhdoaaDoor
