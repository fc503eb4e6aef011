/- For every list of bytes, every list of three bytes and every odd case, EscrowMatchesReference returns true: the module and the reference answer alike. Condition: the listed table of moves, as the program's own text lays it. -/
import Derived.Test.YtmdkgkhddjhdoaaDoorRowG
import Derived.Test.YtmdkgkhddjhdoaaDoorJAbsLaw
import Derived.Test.YtmdkgkhddjhdoaaDoorJC23W
set_option linter.all false
namespace Go.Proofs.YtmdkgkhddjhdoaaDoor.escrowMatchesReference
open Go.ChangeShapes Go.WideShapes Go.ChangeAt Go.RowKit
open Go.Abs
open Go.Proofs.YtmdkgkhddjhdoaaDoor.base
/-- the types that are met -/
structure Tys (P : Program) : Prop where
  u3 : P.underlying 3 = some (.int .i64)
  u5 : P.underlying 5 = some (.int .u8)
  u9 : P.underlying 9 = some .string
  u24 : P.underlying 24 = some (.slice 3)
  u26 : ∃ a b c : Field, P.underlying 26 = some (.struct #[a, b, c]) ∧ a.type = 3 ∧ b.type = 3 ∧ c.type = 3
  u27 : P.underlying 27 = some (.slice 39)
  u28 : P.underlying 28 = some (.array 3 5)
  u30 : ∃ a b c d : Field, P.underlying 30 = some (.struct #[a, b, c, d]) ∧ a.type = 24 ∧ b.type = 26 ∧ c.type = 27 ∧ d.type = 28
  u35 : P.underlying 35 = some (.slice 44)
  u37 : ∃ a b : Field, P.underlying 37 = some (.struct #[a, b]) ∧ a.type = 3 ∧ b.type = 3
  u39 : ∃ a b c d : Field, P.underlying 39 = some (.struct #[a, b, c, d]) ∧ a.type = 37 ∧ b.type = 24 ∧ c.type = 3 ∧ d.type = 35
  u41 : ∃ a b c : Field, P.underlying 41 = some (.struct #[a, b, c]) ∧ a.type = 3 ∧ b.type = 3 ∧ c.type = 9
  u42 : P.underlying 42 = some (.slice 41)
  u44 : ∃ a b c d e f g : Field, P.underlying 44 = some (.struct #[a, b, c, d, e, f, g]) ∧ a.type = 3 ∧ b.type = 3 ∧ c.type = 3 ∧ d.type = 3 ∧ e.type = 42 ∧ f.type = 42 ∧ g.type = 41
  c3 : P.cellsOf 3 = 1
  c39 : P.cellsOf 39 = 5
  c44 : P.cellsOf 44 = 9
theorem tys : Tys Tryd.prog := ⟨Tryd.underlying3, Tryd.underlying5, Tryd.underlying9, Tryd.underlying24, ⟨_, _, _, Tryd.underlying26, rfl, rfl, rfl⟩, Tryd.underlying27, Tryd.underlying28, ⟨_, _, _, _, Tryd.underlying30, rfl, rfl, rfl, rfl⟩, Tryd.underlying35, ⟨_, _, Tryd.underlying37, rfl, rfl⟩, ⟨_, _, _, _, Tryd.underlying39, rfl, rfl, rfl, rfl⟩, ⟨_, _, _, Tryd.underlying41, rfl, rfl, rfl⟩, Tryd.underlying42, ⟨_, _, _, _, _, _, _, Tryd.underlying44, rfl, rfl, rfl, rfl, rfl, rfl, rfl⟩, by kernel_rfl, by kernel_rfl, by kernel_rfl⟩
theorem arg_i {P : Program} {n : Nat} {t : TypeId} {x : AVal} (ht : P.underlying t = some (.int .i64)) (h : ArgOk P (n + 1) t x) : ∃ m : Int, x = .int .i64 m := by
  unfold ArgOk at h
  simp only [ht] at h
  obtain ⟨m, rfl, _⟩ := h
  exact ⟨m, rfl⟩
theorem arg_s {P : Program} {n : Nat} {t : TypeId} {x : AVal} (ht : P.underlying t = some .string) (h : ArgOk P (n + 1) t x) : ∃ m : ByteArray, x = .str m := by
  unfold ArgOk at h
  simp only [ht] at h
  obtain ⟨m, rfl, _⟩ := h
  exact ⟨m, rfl⟩
theorem arg_sl {P : Program} {α : Type} {n k : Nat} {t e : TypeId} {x : AVal} {g : α → AVal} (ht : P.underlying t = some (.slice e)) (hc : P.cellsOf e = k) (hg : ∀ y, ArgOk P n e y → ∃ a : α, y = g a) (h : ArgOk P (n + 1) t x) :
    ∃ (f : SlF) (l : List α), x = sv k f (l.map g) ∧ l.length < 9223372036854775808 := by
  unfold ArgOk at h
  simp only [ht, hc] at h
  rcases h with rfl | ⟨xs, rfl, hl, hx⟩
  · exact ⟨.nil, [], rfl, by simp⟩
  · have key : ∀ (l : List AVal), (∀ v ∈ l, ∃ a : α, v = g a) → ∃ b : List α, l = b.map g := by
      intro l
      induction l with
      | nil => intro _; exact ⟨[], rfl⟩
      | cons v l ih =>
        intro h
        obtain ⟨k, rfl⟩ := h v (by simp)
        obtain ⟨b, rfl⟩ := ih fun w hw => h w (by simp [hw])
        exact ⟨k :: b, rfl⟩
    obtain ⟨b, rfl⟩ := key xs fun v hv => hg v (hx v hv)
    refine ⟨.lst, b, by rw [sv_lst], ?_⟩
    simp at hl
    unfold maxLen at hl
    omega
theorem arg_ints {P : Program} (hP : Tys P) {n : Nat} {x : AVal} (h : ArgOk P (n + 2) 24 x) : ∃ (f : SlF) (l : List Int), x = ints f l ∧ l.length < 9223372036854775808 :=
  arg_sl hP.u24 hP.c3 (fun y hy => arg_i hP.u3 hy) h
theorem arg_key {P : Program} (hP : Tys P) {n : Nat} {x : AVal} (h : ArgOk P (n + 1) 42 x) : x.one = true ∧ x.pure = true := by
  unfold ArgOk at h
  simp only [hP.u42] at h
  rcases h with rfl | ⟨xs, rfl, _, _⟩
  · exact ⟨rfl, rfl⟩
  · exact ⟨rfl, rfl⟩
theorem arg_V {P : Program} (hP : Tys P) {n : Nat} {x : AVal} (h : ArgOk P (n + 2) 41 x) : ∃ (a b : Int) (c : ByteArray), x = .agg [.int .i64 a, .int .i64 b, .str c] := by
  unfold ArgOk at h
  obtain ⟨f41_0, f41_1, f41_2, hu41, t41_0, t41_1, t41_2⟩ := hP.u41
  simp only [hu41] at h
  obtain ⟨xs, rfl, l3, hx⟩ := h
  obtain ⟨z0, z1, z2, rfl⟩ : ∃ z0 z1 z2, xs = [z0, z1, z2] := by
    match xs, l3 with
    | [a, b, c], _ => exact ⟨a, b, c, rfl⟩
  obtain ⟨a, rfl⟩ := arg_i hP.u3 (t41_0 ▸ (hx 0 _ z0 rfl rfl).1)
  obtain ⟨b, rfl⟩ := arg_i hP.u3 (t41_1 ▸ (hx 1 _ z1 rfl rfl).1)
  obtain ⟨c, rfl⟩ := arg_s hP.u9 (t41_2 ▸ (hx 2 _ z2 rfl rfl).1)
  exact ⟨a, b, c, rfl⟩
theorem arg_Op {P : Program} (hP : Tys P) {n : Nat} {x : AVal} (h : ArgOk P (n + 4) 44 x) : ∃ o : Opr, x = .agg (encO o) := by
  unfold ArgOk at h
  obtain ⟨f44_0, f44_1, f44_2, f44_3, f44_4, f44_5, f44_6, hu44, t44_0, t44_1, t44_2, t44_3, t44_4, t44_5, t44_6⟩ := hP.u44
  simp only [hu44] at h
  obtain ⟨xs, rfl, l7, hx⟩ := h
  obtain ⟨z0, z1, z2, z3, z4, z5, z6, rfl⟩ : ∃ z0 z1 z2 z3 z4 z5 z6, xs = [z0, z1, z2, z3, z4, z5, z6] := by
    match xs, l7 with
    | [a, b, c, d, e, f, g], _ => exact ⟨a, b, c, d, e, f, g, rfl⟩
  obtain ⟨a, rfl⟩ := arg_i hP.u3 (t44_0 ▸ (hx 0 _ z0 rfl rfl).1)
  obtain ⟨b, rfl⟩ := arg_i hP.u3 (t44_1 ▸ (hx 1 _ z1 rfl rfl).1)
  obtain ⟨c, rfl⟩ := arg_i hP.u3 (t44_2 ▸ (hx 2 _ z2 rfl rfl).1)
  obtain ⟨d, rfl⟩ := arg_i hP.u3 (t44_3 ▸ (hx 3 _ z3 rfl rfl).1)
  obtain ⟨k1, k2⟩ := arg_key hP (t44_4 ▸ (hx 4 _ z4 rfl rfl).1)
  obtain ⟨r1, r2⟩ := arg_key hP (t44_5 ▸ (hx 5 _ z5 rfl rfl).1)
  obtain ⟨v1, v2, v3, rfl⟩ := arg_V hP (t44_6 ▸ (hx 6 _ z6 rfl rfl).1)
  refine ⟨⟨a, b, c, d, z4, z5, v1, v2, v3, k1, k2, r1, r2⟩, ?_⟩
  simp only [flatC, List.flatMap_cons, List.flatMap_nil, one_cells k1, one_cells r1]
  rfl
theorem arg_Com {P : Program} (hP : Tys P) {n : Nat} {x : AVal} (h : ArgOk P (n + 6) 39 x) : ∃ c : Cm, x = .agg (cellsM c) := by
  unfold ArgOk at h
  obtain ⟨f39_0, f39_1, f39_2, f39_3, hu39, t39_0, t39_1, t39_2, t39_3⟩ := hP.u39
  simp only [hu39] at h
  obtain ⟨xs, rfl, l4, hx⟩ := h
  obtain ⟨z0, z1, z2, z3, rfl⟩ : ∃ z0 z1 z2 z3, xs = [z0, z1, z2, z3] := by
    match xs, l4 with
    | [a, b, c, d], _ => exact ⟨a, b, c, d, rfl⟩
  have h0 := (t39_0 ▸ (hx 0 _ z0 rfl rfl).1)
  unfold ArgOk at h0
  obtain ⟨f37_0, f37_1, hu37, t37_0, t37_1⟩ := hP.u37
  simp only [hu37] at h0
  obtain ⟨ys, rfl, l2, hy⟩ := h0
  obtain ⟨y0, y1, rfl⟩ : ∃ y0 y1, ys = [y0, y1] := by
    match ys, l2 with
    | [a, b], _ => exact ⟨a, b, rfl⟩
  obtain ⟨a, rfl⟩ := arg_i hP.u3 (t37_0 ▸ (hy 0 _ y0 rfl rfl).1)
  obtain ⟨b, rfl⟩ := arg_i hP.u3 (t37_1 ▸ (hy 1 _ y1 rfl rfl).1)
  obtain ⟨pf, past, rfl, _⟩ := arg_ints hP (t39_1 ▸ (hx 1 _ z1 rfl rfl).1)
  obtain ⟨v, rfl⟩ := arg_i hP.u3 (t39_2 ▸ (hx 2 _ z2 rfl rfl).1)
  obtain ⟨f, l, rfl, _⟩ := arg_sl (g := fun o => .agg (encO o)) hP.u35 hP.c44 (fun y hy => arg_Op hP (n := n) hy) (t39_3 ▸ (hx 3 _ z3 rfl rfl).1)
  refine ⟨⟨a, b, pf, past, v, f, l⟩, ?_⟩
  simp only [flatC, List.flatMap_cons, List.flatMap_nil, sv_cells]
  rfl
theorem arg_odd {P : Program} (hP : Tys P) {n : Nat} {x : AVal} (h : ArgOk P (n + 8) 30 x) : ∃ z : OddA, x = .agg (oddC z) ∧ z.S.length < 9223372036854775808 ∧ z.L.length < 9223372036854775808 := by
  unfold ArgOk at h
  obtain ⟨f30_0, f30_1, f30_2, f30_3, hu30, t30_0, t30_1, t30_2, t30_3⟩ := hP.u30
  simp only [hu30] at h
  obtain ⟨xs, rfl, l4, hx⟩ := h
  obtain ⟨z0, z1, z2, z3, rfl⟩ : ∃ z0 z1 z2 z3, xs = [z0, z1, z2, z3] := by
    match xs, l4 with
    | [a, b, c, d], _ => exact ⟨a, b, c, d, rfl⟩
  obtain ⟨fS, S, rfl, hS⟩ := arg_ints hP (t30_0 ▸ (hx 0 _ z0 rfl rfl).1)
  have h0 := (t30_1 ▸ (hx 1 _ z1 rfl rfl).1)
  unfold ArgOk at h0
  obtain ⟨f26_0, f26_1, f26_2, hu26, t26_0, t26_1, t26_2⟩ := hP.u26
  simp only [hu26] at h0
  obtain ⟨ys, rfl, l3, hy⟩ := h0
  obtain ⟨y0, y1, y2, rfl⟩ : ∃ y0 y1 y2, ys = [y0, y1, y2] := by
    match ys, l3 with
    | [a, b, c], _ => exact ⟨a, b, c, rfl⟩
  obtain ⟨a, rfl⟩ := arg_i hP.u3 (t26_0 ▸ (hy 0 _ y0 rfl rfl).1)
  obtain ⟨b, rfl⟩ := arg_i hP.u3 (t26_1 ▸ (hy 1 _ y1 rfl rfl).1)
  obtain ⟨c, rfl⟩ := arg_i hP.u3 (t26_2 ▸ (hy 2 _ y2 rfl rfl).1)
  obtain ⟨fL, L, rfl, hL⟩ := arg_sl (g := fun c => .agg (cellsM c)) hP.u27 hP.c39 (fun y hy => arg_Com hP (n := n) hy) (t30_2 ▸ (hx 2 _ z2 rfl rfl).1)
  obtain ⟨k, rfl, _, _, _⟩ := arg_tri hP.u28 hP.u5 (t30_3 ▸ (hx 3 _ z3 rfl rfl).1)
  refine ⟨⟨fS, S, a, b, c, fL, L, k⟩, ?_, hS, hL⟩
  simp only [flatC, List.flatMap_cons, List.flatMap_nil, sv_cells]
  rfl
set_option maxRecDepth 100000 in
theorem abs {xs : List AVal} (hl : xs.length = Tryd.f3.params.toList.length) (hx : ∀ (i : Nat) t x, Tryd.f3.params.toList[i]? = some t → xs[i]? = some x → ArgOk Tryd.prog 8 t x) : ∃ n, callW Go.Abs.T n false 3 xs [] [] fun v _ => v = .bool true := by
  rw [Tryd.params3] at hl hx
  obtain ⟨x, y, z, rfl⟩ : ∃ x y z, xs = [x, y, z] := by
    match xs, hl with
    | [a, b, c], _ => exact ⟨a, b, c, rfl⟩
  obtain ⟨f, b, rfl, h1, h2⟩ := argOk_bytes (n := 6) Tryd.underlying22 Tryd.underlying5 (by kernel_rfl) (hx 0 22 x rfl rfl)
  obtain ⟨g, l, rfl, hl'⟩ := arg_tris (n := 5) Tryd.underlying23 Tryd.underlying28 Tryd.underlying5 (by kernel_rfl) (hx 1 23 y rfl rfl)
  obtain ⟨z, rfl, hS, hL⟩ := arg_odd tys (n := 0) (hx 2 30 z rfl rfl)
  exact law_top T_l23_EscrowMatchesReference (by simp only [go_sem]) ((l23_EscrowMatchesReference_true h1 h2 hl' hL hS).2 rfl)

attribute [local irreducible] ArgOk
set_option maxRecDepth 100000 in
theorem lifted (os : Os) (started : os.Started) (H : Type) (enc : TypeId × Value → H) :
    ReturnsInHanded {} Tryd.checked os 3 .any (fun w args => (Rows.escrowMatchesReferenceSpec.pre enc Tryd.prog Tryd.f3 [] false w args ∧ laidMetH Tryd.prog listed w) ∧ sizedMet enc Tryd.prog Tryd.f3 (OpenSpec.ofChange Rows.escrowMatchesReferenceSpec) false w args)
      (Rows.escrowMatchesReferenceSpec.post enc Tryd.prog Tryd.f3 false true false false) := by
  refine returnsInHanded_of_change_and (C := Tryd.checked) (X := fun w _ => laidMetH Tryd.prog listed w) (fun _ _ _ hh h => h.of_heap hh) own started (by kernel_rfl) Tryd.func3
    (ChangeSpec.witness_shaped (enc := enc) (C := Tryd.checked) (os := os) (X := fun w _ => laidMetH Tryd.prog listed w) false (World.doorLaid Tryd.prog 400 os) #[.slice none 0 0, .slice none 0 0, .agg #[.slice none 0 0, .int .i64 0, .int .i64 0, .int .i64 0, .slice none 0 0, .int .u8 0, .int .u8 0, .int .u8 0]] 8 rfl (World.shaped_of_RefB (by kernel_rfl) (by kernel_rfl)) (by kernel_rfl) (by kernel_rfl) (by kernel_rfl) (door_met os _)) ?_
  intro W base args ds gs before hval0 hW _ _ hL _
  have hval : ∀ (j : Nat) t v, Tryd.f3.params[j]? = some t → args[j]? = some v → Value.okWide Tryd.prog W .any base t v := hval0
  have hW' := hW
  obtain ⟨p, q, hA0, hV, rfl, hfz, hnd⟩ := hW
  have hA : DataW.TrodAll enc Tryd.prog W 0 (fun _ => true) true Tryd.f3.params.toList args.toList ds p := hA0
  obtain ⟨rfl, rfl⟩ := trodVars_none hV
  obtain ⟨xs, l1, l2, hx⟩ := open_args (n := 8) hA (by kernel_rfl) (fun j t v g1 g2 => hval j t v (by simpa using g1) (by simpa using g2))
  have har : ArgsRel (frzAll W) noL xs args := ⟨by rw [l1, ← l2]; simp, fun i c hc => by
    have hi : i < Tryd.f3.params.toList.length := by rw [← l1]; exact (List.getElem?_eq_some_iff.1 hc).1
    have := (hx i _ c (List.getElem?_eq_getElem hi) hc).2
    rw [List.getD_eq_getElem?_getD] at this
    rw [Array.getD_eq_getD_getElem?]; simpa using this⟩
  obtain ⟨n, hn⟩ := abs l1 fun i t x h1 h2 => (hx i t x h1 h2).1
  have hlen := trodAll_len hA
  obtain ⟨d0, d1, d2, rfl⟩ : ∃ d0 d1 d2, ds = [d0, d1, d2] := by
    match ds, hlen with
    | [a, b, c], _ => exact ⟨a, b, c, rfl⟩
  refine (calls_below mixed T_ok hn har (glOk hL)).mono fun e W' ⟨he, bel⟩ => ?_
  subst he
  exact ⟨_, rfl, _, _, _, [], _, [], hW', trodAll_mk1 (shut_bool Tryd.underlying4 _), trodAll_below laidOut bel (by kernel_rfl) hA, rfl, bel.frame _, fun h => by cases h⟩
theorem over : Rows.escrowMatchesReferenceRow.holds Tryd.pinned (OpenSpec.ofChange Rows.escrowMatchesReferenceSpec) :=
  OpenClaim.holds_of_wide 3 Tryd.f3 rfl rfl rfl rfl rfl rfl rfl ⟨rfl, rfl, rfl, rfl, rfl⟩ rfl rfl rfl rfl rfl (by kernel_rfl) Tryd.func3 (by kernel_rfl)
    (of_decide_eq_true (by kernel_rfl)) (by unfold Func.isWrapper; first | (rw [if_pos (by decide +kernel)]; kernel_rfl) | (rw [if_neg (by decide +kernel)]; exact ⟨rfl, rfl⟩))
    (fun os started H enc _ => lifted os started H enc)
theorem plain (f : FuncId) (fn : Func) (hf : Tryd.pinned.checked.prog.funcNamed "chapman/chapmanlaw23.EscrowMatchesReference" = some f) (hfn : Tryd.pinned.checked.prog.funcs[f]? = some fn) :
    false = Tryd.pinned.checked.prog.looks [] ∧ ∀ (j : Nat) t, fn.params[j]? = some t → Tryd.pinned.checked.prog.wantsStandIn t = false := by
  obtain rfl : f = 3 := Option.some.inj ((show Tryd.prog.funcNamed "chapman/chapmanlaw23.EscrowMatchesReference" = some 3 by kernel_rfl).symm.trans hf) |>.symm
  obtain rfl : fn = Tryd.f3 := (Option.some.inj (Tryd.func3.symm.trans hfn)).symm
  refine ⟨by kernel_rfl, fun j t ht => ?_⟩
  rw [Tryd.params3] at ht
  have hm : t ∈ [22, 23, 30] := by simpa using Array.mem_of_getElem? ht
  have hall : ([22, 23, 30].all fun u => !Tryd.prog.wantsStandIn u) = true := by kernel_rfl
  exact (show Tryd.prog.wantsStandIn t = false by simpa using List.all_eq_true.1 hall t hm)
end Go.Proofs.YtmdkgkhddjhdoaaDoor.escrowMatchesReference
namespace Go.Proofs.YtmdkgkhddjhdoaaDoor
/-- EscrowMatchesReference returns true for every input: the tied card. -/
theorem escrowMatchesReference_holds : Rows.EscrowMatchesReferenceCardSaid :=
  Claim7.holds_tied_plain_at .later [] _ _ _ _ escrowMatchesReference.over (fun _ h => by cases h) (by kernel_rfl) (fun _ h => by cases h) escrowMatchesReference_row_tie rfl ⟨rfl, rfl⟩ (by kernel_rfl) rfl escrowMatchesReference.plain (by kernel_rfl)
end Go.Proofs.YtmdkgkhddjhdoaaDoor
