/- For every case, every two lists of rows with columns, and every number, JoinMatchesReference returns true: all joins are as in the reference, with all errors. No condition. -/
import Derived.Test.YtjfiifcehdjhpaaRowJ
import Derived.Test.YtjfiifcehdjhpaaJC40O
import Derived.Test.YtjfiifcehdjhpaaAbsReadW
set_option linter.all false
namespace Go.Proofs.Ytjfiifcehdjhpaa.joinMatchesReference
open Go.ChangeShapes Go.WideShapes Go.ChangeAt Go.RowKit
open Go.Abs
open Go.Proofs.Ytjfiifcehdjhpaa.base
theorem list_of {α β : Type} {g : β → α} {Q : β → Prop} : ∀ {xs : List α}, (∀ x ∈ xs, ∃ v, x = g v ∧ Q v) → ∃ l : List β, xs = l.map g ∧ ∀ v ∈ l, Q v
 | [], _ => ⟨[], rfl, fun v h => by simp at h⟩
 | x :: xs, h => by
  obtain ⟨v, rfl, hv⟩ := h x List.mem_cons_self
  obtain ⟨l, rfl, hl⟩ := list_of fun y hy => h y (List.mem_cons_of_mem _ hy)
  exact ⟨v :: l, rfl, fun w hw => by
   rcases List.mem_cons.1 hw with rfl | hw
   ·exact hv
   ·exact hl w hw⟩
theorem arg_int {P : Program} {n : Nat} {e : TypeId} {x : AVal} (he : P.underlying e = some (.int .i64)) (h : ArgOkW P (n + 1) e x) : ∃ m : Int, x = .int .i64 m := by
 unfold ArgOkW at h
 simp only [he] at h
 obtain ⟨m, rfl, _⟩ := h
 exact ⟨m, rfl⟩
theorem arg_val {P : Program} {n : Nat} {t i s : TypeId} {x : AVal} {fs : Array Field} (ht : P.underlying t = some (.struct fs)) (h0 : fs.toList.map (·.type) = [i, i, s]) (hi : P.underlying i = some (.int .i64)) (hs : P.underlying s = some .string) (h : ArgOkW P (n + 2) t x) : ∃ v : Val, x = vA v ∧ Short v := by
 unfold ArgOkW at h
 simp only [ht] at h
 obtain ⟨xs, rfl, hl, hx⟩ := h
 have h5 : fs.size = 3 := by have := congrArg List.length h0; simpa using this
 obtain ⟨a, b, c, rfl⟩ : ∃ a b c, xs = [a, b, c] := by
  match xs, hl.trans h5 with
  | [a, b, c], _ => exact ⟨a, b, c, rfl⟩
 have key : ∀ (k : Nat) w y, [i, i, s][k]? = some w → [a, b, c][k]? = some y → ArgOkW P (n + 1) w y := by
  intro k w y h1 h2
  rw [← h0, List.getElem?_map] at h1
  cases hf : fs.toList[k]? with
  | none => rw [hf] at h1; cases h1
  | some f =>
   rw [hf] at h1
   cases h1
   exact (hx k f y (by simpa using hf) h2).1
 obtain ⟨m1, rfl⟩ := arg_int hi (key 0 i a rfl rfl)
 obtain ⟨m2, rfl⟩ := arg_int hi (key 1 i b rfl rfl)
 have h3 := key 2 s c rfl rfl
 unfold ArgOkW at h3
 simp only [hs] at h3
 obtain ⟨q, rfl, _, hq⟩ := h3
 exact ⟨⟨m1, m2, q⟩, rfl, by show q.size < _; simp only [reachBytes] at hq; omega⟩
/-- a row that is handed in -/
structure RowOk (p : SlF × List Val) : Prop where
 n : p.2.length ≤ 1152921504606846976
 s : ∀ v ∈ p.2, Short v
theorem arg_row {P : Program} {n : Nat} {w t i s : TypeId} {x : AVal} {fs : Array Field} (hw : P.underlying w = some (.slice t)) (hk : P.cellsOf t = 3) (hb : P.bytesOf t = 32) (ht : P.underlying t = some (.struct fs)) (h0 : fs.toList.map (·.type) = [i, i, s]) (hi : P.underlying i = some (.int .i64)) (hs : P.underlying s = some .string) (h : ArgOkW P (n + 3) w x) : ∃ p : SlF × List Val, x = rowA p.1 p.2 ∧ RowOk p := by
 unfold ArgOkW at h
 simp only [hw, hk, hb] at h
 rcases h with rfl | ⟨xs, rfl, _, hn, hx⟩
 ·exact ⟨(.nil, []), rfl, ⟨by simp, fun v hv => by simp at hv⟩⟩
 ·obtain ⟨l, rfl, hl⟩ := list_of (g := fun v : Val => vA v) (Q := Short) fun x hm => arg_val ht h0 hi hs (hx x hm)
  rw [List.length_map] at hn
  exact ⟨(.lst, l), by rw [rowA, sv_lst], ⟨by simp only [reachBytes] at hn; show l.length ≤ _; omega, hl⟩⟩
theorem arg_rows {P : Program} {n : Nat} {z w t i s : TypeId} {x : AVal} {fs : Array Field} (hz : P.underlying z = some (.slice w)) (hk1 : P.cellsOf w = 1) (hb1 : P.bytesOf w = 24) (hw : P.underlying w = some (.slice t)) (hk : P.cellsOf t = 3) (hb : P.bytesOf t = 32) (ht : P.underlying t = some (.struct fs)) (h0 : fs.toList.map (·.type) = [i, i, s]) (hi : P.underlying i = some (.int .i64)) (hs : P.underlying s = some .string) (h : ArgOkW P (n + 4) z x) :
  ∃ (f : SlF) (l : List (SlF × List Val)), x = rowsA f l ∧ f ≠ .emp ∧ B.Cnt l ∧ ∀ p ∈ l, ∀ v ∈ p.2, Short v := by
 unfold ArgOkW at h
 simp only [hz, hk1, hb1] at h
 rcases h with rfl | ⟨xs, rfl, _, hn, hx⟩
 ·exact ⟨.nil, [], rfl, by simp, ⟨by simp, fun v hv => by simp at hv⟩, fun v hv => by simp at hv⟩
 ·obtain ⟨l, rfl, hl⟩ := list_of (g := fun p : SlF × List Val => rowA p.1 p.2) (Q := RowOk) fun x hm => arg_row hw hk hb ht h0 hi hs (hx x hm)
  rw [List.length_map] at hn
  exact ⟨.lst, l, by rw [rowsA, sv_lst], by simp, ⟨by simp only [reachBytes] at hn; omega, fun p hp => (hl p hp).n⟩, fun p hp => (hl p hp).s⟩
theorem arg_on {P : Program} {n : Nat} {t e : TypeId} {x : AVal} (ht : P.underlying t = some (.array 2 e)) (he : P.underlying e = some (.int .i64)) (h : ArgOkW P (n + 2) t x) :
  ∃ a b : Int, x = .agg [.int .i64 a, .int .i64 b] := by
 unfold ArgOkW at h
 simp only [ht] at h
 obtain ⟨xs, rfl, l2, hx⟩ := h
 obtain ⟨z0, z1, rfl⟩ : ∃ z0 z1, xs = [z0, z1] := by
  match xs, l2 with
  | [a, b], _ => exact ⟨a, b, rfl⟩
 obtain ⟨a, rfl⟩ := arg_int he (hx z0 (by simp)).1
 obtain ⟨b, rfl⟩ := arg_int he (hx z1 (by simp)).1
 exact ⟨a, b, rfl⟩
theorem arg_made {P : Program} {n : Nat} {m z o w t i s : TypeId} {x : AVal} {gs fs : Array Field} (hm : P.underlying m = some (.struct gs)) (h1 : gs.toList.map (·.type) = [z, z, o]) (ho : P.underlying o = some (.array 2 i)) (hz : P.underlying z = some (.slice w)) (hk1 : P.cellsOf w = 1) (hb1 : P.bytesOf w = 24) (hw : P.underlying w = some (.slice t)) (hk : P.cellsOf t = 3) (hb : P.bytesOf t = 32) (ht : P.underlying t = some (.struct fs)) (h0 : fs.toList.map (·.type) = [i, i, s]) (hi : P.underlying i = some (.int .i64)) (hs : P.underlying s = some .string) (h : ArgOkW P (n + 5) m x) :
  ∃ (fa fb : SlF) (a b : List (SlF × List Val)) (i j : Int), x = .agg [rowsA fa a, rowsA fb b, .int .i64 i, .int .i64 j] ∧ fb ≠ .emp ∧ B.Cnt a ∧ B.Cnt b ∧ (∀ p ∈ a, ∀ v ∈ p.2, Short v) ∧ ∀ p ∈ b, ∀ v ∈ p.2, Short v := by
 unfold ArgOkW at h
 simp only [hm] at h
 obtain ⟨xs, rfl, hl, hx⟩ := h
 have h5 : gs.size = 3 := by have := congrArg List.length h1; simpa using this
 obtain ⟨a, b, c, rfl⟩ : ∃ a b c, xs = [a, b, c] := by
  match xs, hl.trans h5 with
  | [a, b, c], _ => exact ⟨a, b, c, rfl⟩
 have key : ∀ (k : Nat) w y, [z, z, o][k]? = some w → [a, b, c][k]? = some y → ArgOkW P (n + 4) w y := by
  intro k w y g1 g2
  rw [← h1, List.getElem?_map] at g1
  cases hf : gs.toList[k]? with
  | none => rw [hf] at g1; cases g1
  | some f =>
   rw [hf] at g1
   cases g1
   exact (hx k f y (by simpa using hf) g2).1
 obtain ⟨fa, la, rfl, _, ca, sa⟩ := arg_rows hz hk1 hb1 hw hk hb ht h0 hi hs (key 0 z a rfl rfl)
 obtain ⟨fb, lb, rfl, eb, cb, sb⟩ := arg_rows hz hk1 hb1 hw hk hb ht h0 hi hs (key 1 z b rfl rfl)
 obtain ⟨p, q, rfl⟩ := arg_on ho hi (key 2 o c rfl rfl)
 refine ⟨fa, fb, la, lb, p, q, ?_, eb, ca, cb, sa, sb⟩
 have g : ∀ (f : SlF) (l : List AVal), (sv 1 f l).cells = [sv 1 f l] := by
  intro f l
  cases f <;> first | rfl | (simp only [sv]; split <;> rfl)
 simp only [flatC, List.flatMap_cons, List.flatMap_nil, g]
 rfl
set_option maxRecDepth 100000 in
theorem abs {xs : List AVal} (hl : xs.length = Try.f3.params.toList.length) (hx : ∀ (i : Nat) t x, Try.f3.params.toList[i]? = some t → xs[i]? = some x → ArgOkW Try.prog 8 t x) : ∃ n, callW Go.Abs.T n false 3 xs [] [] fun v _ => v = .bool true := by
 have hp : Try.f3.params.toList = [25, 29, 3] := by rfl
 rw [hp] at hl hx
 obtain ⟨x, y, u, rfl⟩ : ∃ x y u, xs = [x, y, u] := by
  match xs, hl with
  | [a, b, c], _ => exact ⟨a, b, c, rfl⟩
 obtain ⟨z, rfl, hz⟩ := arg_case (P := Try.prog) (n := 5) Try.underlying25 rfl Try.underlying22 Try.underlying5 Try.underlying23 (by kernel_rfl) (hx 0 25 x rfl rfl).ok
 obtain ⟨fa, fb, a, b, i, j, rfl, eb, ca, cb, sa, sb⟩ := arg_made (P := Try.prog) (n := 3) Try.underlying29 rfl Try.underlying27 Try.underlying26 (by kernel_rfl) (by kernel_rfl) Try.underlying36 (by kernel_rfl) (by kernel_rfl) Try.underlying34 rfl Try.underlying3 Try.underlying9 (hx 1 29 y rfl rfl)
 obtain ⟨m, rfl⟩ := arg_int (P := Try.prog) (n := 7) Try.underlying3 (hx 2 3 u rfl rfl)
 exact law_top T_X2 (by simp only [go_sem]) ((B.X2_spec hz ca cb sa sb eb).2 rfl)

attribute [local irreducible] ArgOkW
set_option maxRecDepth 100000 in
theorem lifted (os : Os) (started : os.Started) (H : Type) (enc : TypeId × Value → H) :
  ReturnsInHanded {} Try.checked os 3 .any (Rows.joinMatchesReferenceSpec.pre6 enc Try.prog Try.f3 Rows.joinMatchesReferenceRow.domain false) (Rows.joinMatchesReferenceSpec.post enc Try.prog Try.f3 false true false false) := by
 refine returnsInHanded_of_change_sized (C := Try.checked) own started (by kernel_rfl) Try.func3
  (ChangeSpec.witness6 (enc := enc) (C := Try.checked) false ⟨#[], #[.agg #[.slice none 0 0, .slice none 0 0, .int .u8 0, .int .u8 0, .int .u8 0, .int .u8 0], .agg #[.slice none 0 0, .slice none 0 0, .int .i64 0, .int .i64 0], .int .i64 0], []⟩ 8 (by kernel_rfl) (by kernel_rfl) (by kernel_rfl) (by kernel_rfl)) ?_
 intro W base args ds gs before hval0 hW hcnd hsz0 _
 have hval : ∀ (j : Nat) t v, Try.f3.params[j]? = some t → args[j]? = some v → Value.okWide Try.prog W .any base t v := hval0
 have hW' := hW
 obtain ⟨p, q, hA0, hV, rfl, hfz, hnd⟩ := hW
 have hA : DataW.TrodAll enc Try.prog W 0 (fun _ => true) true Try.f3.params.toList args.toList ds p := hA0
 obtain ⟨rfl, rfl⟩ := trodVars_none hV
 have hsz : (DataW.weightsEach Try.prog Try.f3.params.toList ds).all (· ≤ reachBytes) = true := by
  have h := hsz0
  rw [List.append_nil] at h
  exact h
 obtain ⟨xs, l1, l2, hx⟩ := open_argsW (n := 8) hA (by kernel_rfl) hsz (fun j t v g1 g2 => hval j t v (by simpa using g1) (by simpa using g2))
 have har : ArgsRel (frzAll W) noL xs args := ⟨by rw [l1, ← l2]; simp, fun i c hc => by
  have hi : i < Try.f3.params.toList.length := by rw [← l1]; exact (List.getElem?_eq_some_iff.1 hc).1
  have := (hx i _ c (List.getElem?_eq_getElem hi) hc).2
  rw [List.getD_eq_getElem?_getD] at this
  rw [Array.getD_eq_getD_getElem?]; simpa using this⟩
 obtain ⟨n, hn⟩ := abs l1 fun i t x h1 h2 => (hx i t x h1 h2).1
 have hlen := trodAll_len hA
 obtain ⟨d0, d1, d2, rfl⟩ : ∃ d0 d1 d2, ds = [d0, d1, d2] := by
  match ds, hlen with
  | [a, b, c], _ => exact ⟨a, b, c, rfl⟩
 refine (calls_below mixed T_ok hn har (glOk _)).mono fun e W' ⟨he, bel⟩ => ?_
 subst he
 exact ⟨_, rfl, _, _, _, [], _, [], hW', trodAll_mk1 (shut_bool Try.underlying4 _), trodAll_below laidOut bel (by kernel_rfl) hA, rfl, bel.frame _, fun h => by cases h⟩
theorem over : Rows.joinMatchesReferenceRow.holds Try.pinned (OpenSpec.ofChange Rows.joinMatchesReferenceSpec) :=
 OpenClaim.holds_of_wide 3 Try.f3 rfl rfl rfl rfl rfl rfl rfl ⟨rfl, rfl, rfl, rfl, rfl⟩ rfl rfl rfl rfl rfl (by kernel_rfl) Try.func3 (by kernel_rfl)
  (of_decide_eq_true (by kernel_rfl)) (by unfold Func.isWrapper; first | (rw [if_pos (by decide +kernel)]; kernel_rfl) | (rw [if_neg (by decide +kernel)]; exact ⟨rfl, rfl⟩))
  (fun os started H enc _ => lifted os started H enc)
end Go.Proofs.Ytjfiifcehdjhpaa.joinMatchesReference
namespace Go.Proofs.Ytjfiifcehdjhpaa
/-- JoinMatchesReference returns true for every input. -/
theorem joinMatchesReference_holds : Rows.JoinMatchesReferenceSaid := joinMatchesReference.over
end Go.Proofs.Ytjfiifcehdjhpaa
