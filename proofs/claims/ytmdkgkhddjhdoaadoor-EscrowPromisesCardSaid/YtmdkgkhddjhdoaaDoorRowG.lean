/- What the rows of this seat have in common: the table of moves in the memory, arguments of bytes, a world for the witness. -/
import Derived.Test.YtmdkgkhddjhdoaaDoorCards
import Derived.Test.YtmdkgkhddjhdoaaDoorTie
import Derived.Test.YtmdkgkhddjhdoaaDoorC23FOk
import Derived.Test.YtmdkgkhddjhdoaaDoorJAbsCode
import Derived.Test.YtmdkgkhddjhdoaaDoorAbsLink
import Derived.Test.YtmdkgkhddjhdoaaDoorAbsArg
import Derived.Test.YtmdkgkhddjhdoaaDoorAbsGlob
import Derived.Test.YtmdkgkhddjhdoaaDoorJD20A
import Derived.WalkKit
import Derived.ProofKit
import Derived.OpenShut
import Derived.Deep.DeepHandedRow
import Derived.Lib.LaidTab
import Derived.LaidHandle
import Derived.LaidMore
import Derived.Stop.Joined
import Derived.SevenTiedAt
import Derived.ShutString
import Derived.ChangeOld
import Derived.Below
import Derived.SizedLaws
set_option linter.all false
namespace Go.Proofs.YtmdkgkhddjhdoaaDoor.base
open Go.ChangeShapes Go.WideShapes Go.ChangeAt Go.RowKit
open Go.Abs
theorem own : ownKnob Tryd.prog.godebug = none := by kernel_rfl
theorem laidOut : laidOutB Tryd.prog = true := by kernel_rfl
theorem mixed : Tryd.prog.follows .mixedOrders = true := by kernel_rfl
theorem gTab : Tryd.prog.globalNamed "chapman/escrow.moves" = some 0 := by kernel_rfl
theorem gTabType : (Tryd.prog.globals[0]?).map (·.type) = some 117 := by kernel_rfl

noncomputable def nameOnly (bs : List UInt8) (g : Nat) : Bool := (List.range Tryd.prog.funcs.size).all fun f => match Tryd.prog.funcs[f]? with
  | some fn => !(fn.name.toUTF8.data.toList == bs) || f == g
  | none => true
theorem nameOnly_out {bs : List UInt8} {g : Nat} (h : nameOnly bs g = true) (f : FuncId) (fn : Func) (h1 : Tryd.prog.funcs[f]? = some fn) (_ : Tryd.prog.funcNamed fn.name = some f) (h3 : fn.name.toUTF8.data.toList = bs) : f = g := by
  have hlt : f < Tryd.prog.funcs.size := (Array.getElem?_eq_some_iff.1 h1).1
  have := List.all_eq_true.1 h f (List.mem_range.2 hlt)
  simp only [h1, h3] at this
  simpa using this
theorem only_take : nameOnly [40, 42, 99, 104, 97, 112, 109, 97, 110, 47, 101, 115, 99, 114, 111, 119, 46, 115, 116, 111, 99, 107, 41, 46, 116, 97, 107, 101] 74 = true := by kernel_rfl
theorem only_grant : nameOnly [40, 42, 99, 104, 97, 112, 109, 97, 110, 47, 101, 115, 99, 114, 111, 119, 46, 115, 116, 111, 99, 107, 41, 46, 103, 114, 97, 110, 116] 76 = true := by kernel_rfl

abbrev listed : List (String × DataW Unit) := [("chapman/escrow.moves", Rows.laid_chapman_escrow_moves)]
/-- WHAT THE LIST GIVES. -/
theorem glOk {W : World} (h : laidMetH Tryd.prog listed W) : GlOk (frzAll W) := by
  have hf := laidMetH.funcs h (n := "chapman/escrow.moves") (d := _) (List.mem_cons_self ..)
  obtain ⟨h1, h2⟩ := table_two (q := .i64) gTab gTabType Tryd.underlying117 Tryd.underlying3 Tryd.underlying115 (by decide) (nameOnly_out only_take) (nameOnly_out only_grant) hf
  intro g v hg
  have hg' : (if g = 0 then some (AVal.fmap [.int .i64 5, .int .i64 6] [.clo (.func i_escrow_stock_take) [] [], .clo (.func i_escrow_stock_grant) [] []]) else none) = some v := hg
  split at hg'
  · rename_i e
    subst e
    obtain rfl := Option.some.inj hg'
    cases hc : W.cell? ⟨0, 0, none⟩ with
    | none => rw [hc] at h2; cases h2
    | some cv =>
      rw [hc] at h1
      exact ⟨cv, hc, h1, rfl⟩
  · cases hg'

/-- The door's own heap meets the condition. -/
theorem door_met (os : Os) (args : Array Value) : laidMetH Tryd.prog listed ((World.doorLaid Tryd.prog 400 os).forCall (fun _ _ => 0) ⟨#[], args, []⟩).memory :=
  laidMetH_of_parts3 (fuel := 8) (laidMet_of_run' 8 (by kernel_rfl) (by kernel_rfl)) (by kernel_rfl) (by kernel_rfl)

/-! ### Arguments of bytes -/
theorem arg_u8 {P : Program} {n : Nat} {e : TypeId} {x : AVal} (he : P.underlying e = some (.int .u8)) (h : ArgOk P (n + 1) e x) : ∃ m : Nat, x = .int .u8 ((m : Nat) : Int) ∧ m < 256 := by
  unfold ArgOk at h
  simp only [he] at h
  obtain ⟨m, rfl, hw⟩ := h
  have e1 : IntKind.u8.min = 0 := by decide
  have e2 : IntKind.u8.max = 255 := by decide
  simp only [Lit.wf, e1, e2, Bool.and_eq_true, decide_eq_true_eq] at hw
  exact ⟨m.toNat, by rw [Int.toNat_of_nonneg hw.1], by omega⟩
theorem arg_tri {P : Program} {n : Nat} {t e : TypeId} {x : AVal} (ht : P.underlying t = some (.array 3 e)) (he : P.underlying e = some (.int .u8)) (h : ArgOk P (n + 2) t x) :
    ∃ k : Tri, x = .agg (cells3 k) ∧ k.a < 256 ∧ k.b < 256 ∧ k.c < 256 := by
  unfold ArgOk at h
  simp only [ht] at h
  obtain ⟨xs, rfl, l3, hx⟩ := h
  obtain ⟨z0, z1, z2, rfl⟩ : ∃ z0 z1 z2, xs = [z0, z1, z2] := by
    match xs, l3 with
    | [a, b, c], _ => exact ⟨a, b, c, rfl⟩
  obtain ⟨a, rfl, ha⟩ := arg_u8 he (hx z0 (by simp)).1
  obtain ⟨b, rfl, hb⟩ := arg_u8 he (hx z1 (by simp)).1
  obtain ⟨c, rfl, hc⟩ := arg_u8 he (hx z2 (by simp)).1
  exact ⟨⟨a, b, c⟩, rfl, ha, hb, hc⟩
theorem arg_tris {P : Program} {n : Nat} {t u e : TypeId} {x : AVal} (ht : P.underlying t = some (.slice u)) (hu : P.underlying u = some (.array 3 e)) (he : P.underlying e = some (.int .u8)) (hc : P.cellsOf u = 3) (h : ArgOk P (n + 3) t x) :
    ∃ (f : SlF) (l : List Tri), x = trisV f l ∧ l.length < 9223372036854775808 := by
  unfold ArgOk at h
  simp only [ht, hc] at h
  rcases h with rfl | ⟨xs, rfl, hl, hx⟩
  · exact ⟨.nil, [], rfl, by simp⟩
  · have key : ∀ (l : List AVal), (∀ v ∈ l, ∃ k : Tri, v = .agg (cells3 k)) → ∃ b : List Tri, l = b.map fun x => .agg (cells3 x) := by
      intro l
      induction l with
      | nil => intro _; exact ⟨[], rfl⟩
      | cons v l ih =>
        intro h
        obtain ⟨k, rfl⟩ := h v (by simp)
        obtain ⟨b, rfl⟩ := ih fun w hw => h w (by simp [hw])
        exact ⟨k :: b, rfl⟩
    obtain ⟨b, rfl⟩ := key xs fun v hv => by
      obtain ⟨k, hk, _⟩ := arg_tri hu he (hx v hv)
      exact ⟨k, hk⟩
    refine ⟨.lst, b, by rw [trisV, sv_lst], ?_⟩
    simp at hl
    unfold maxLen at hl
    omega
end Go.Proofs.YtmdkgkhddjhdoaaDoor.base
