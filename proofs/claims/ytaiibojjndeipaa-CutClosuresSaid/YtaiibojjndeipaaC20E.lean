/- The orders and closures of chapter 20's examples, reckoned by the kernel. -/
import Derived.Test.YtaiibojjndeipaaC20L
import Derived.Test.YtaiibojjndeipaaAbsEval
import Derived.KernelRfl
set_option linter.all false
set_option linter.unusedSimpArgs false
namespace Go.Abs
open Go

theorem cw_eval {T : FuncId → Option AFunc} {f : FuncId} {n m : Nat} {rs : List ARes} {c : ACode} {args : List AVal} {v : AVal} (hf : T f = some ⟨m, rs, c⟩) (hp : AVal.pures args = true) (h : evCall T n true f args [] = some (v, [])) {lv : List Nat} {σ : Sto} {R : Post} : Cw T true f args lv σ R ↔ R v σ := by
  refine Cw.iff_of fun R hR => ?_
  have h1 : Cw T true f args [] [] (fun u τ => u = v ∧ τ = []) := ⟨n, evCall_sound T n _ _ _ _ _ _ h _ ⟨rfl, rfl⟩⟩
  rw [cw_pure hf (mapM_snap_pure hp)] at h1 ⊢
  refine h1.mono fun x e σ' hx => ret_mono (fun u τ hu => ?_) hx
  cases hsn : snapA τ snapDepth u with
  | none => rw [hsn] at hu; exact hu.elim
  | some v' =>
    rw [hsn] at hu
    obtain ⟨_, rfl, _⟩ := hu
    exact ⟨.inl hp, hR⟩

def c0 : Com := ⟨0, 2, .lst, [1, 1, 0, 0, 0, 0], 0, .nils, rfl, rfl⟩
def c1 : Com := ⟨0, 1, .lst, zeros, 0, .nils, rfl, rfl⟩
def c2 : Com := ⟨1, 1, .lst, zeros, 0, .nils, rfl, rfl⟩
def exL : List Com := [c0, c1, c2]
def exL1 : List Com := [c0]
def eAll : List Int := [2, 1, 0, 0, 0, 0]
def eOne : List Int := [1, 0, 0, 0, 0, 0]
def eTwo : List Int := [2, 0, 0, 0, 0, 0]

def e120 : List Int := [1, 2, 0]

theorem e_order1 : evCall T 40 true i_l20_order [coms .lst exL, ints .lst eAll] [] = some (.agg [ints .lst e120, .int .i64 0], []) := by kernel_rfl
theorem e_order2 : evCall T 40 true i_l20_order [coms .lst exL, ints .lst eTwo] [] = some (.agg [.nils, .int .i64 200], []) := by kernel_rfl
theorem e_clos1 : evCall T 40 true i_l20_closure [coms .lst exL, .list 2 [.agg [.int .i64 0, .int .i64 2]]] [] = some (.agg [ints .lst eAll, .int .i64 0], []) := by kernel_rfl
theorem e_clos2 : evCall T 40 true i_l20_closure [coms .lst exL, .list 2 [.agg [.int .i64 2, .int .i64 1]]] [] = some (.agg [.nils, .int .i64 4], []) := by kernel_rfl
theorem e_clos3 : evCall T 40 true i_l20_closure [coms .lst exL1, .list 2 [.agg [.int .i64 0, .int .i64 2]]] [] = some (.agg [.nils, .int .i64 200], []) := by kernel_rfl

section
variable {Q : Post3} {k : List Item} {os : List AOper} {d : Option Nat} {e : Env} {σ : Sto}
@[go_sem] theorem k_order1 : CallK T Q k os d e σ true i_l20_order [coms .lst exL, ints .lst eAll] ↔ Run T Q (.ops os :: k) (put e d (.agg [ints .lst e120, .int .i64 0])) σ := callK_of (cw_eval T_l20_order (by rfl) e_order1)
@[go_sem] theorem k_order2 : CallK T Q k os d e σ true i_l20_order [coms .lst exL, ints .lst eTwo] ↔ Run T Q (.ops os :: k) (put e d (.agg [.nils, .int .i64 200])) σ := callK_of (cw_eval T_l20_order (by rfl) e_order2)
@[go_sem] theorem k_clos1 : CallK T Q k os d e σ true i_l20_closure [coms .lst exL, .list 2 [.agg [.int .i64 0, .int .i64 2]]] ↔ Run T Q (.ops os :: k) (put e d (.agg [ints .lst eAll, .int .i64 0])) σ := callK_of (cw_eval T_l20_closure (by rfl) e_clos1)
@[go_sem] theorem k_clos2 : CallK T Q k os d e σ true i_l20_closure [coms .lst exL, .list 2 [.agg [.int .i64 2, .int .i64 1]]] ↔ Run T Q (.ops os :: k) (put e d (.agg [.nils, .int .i64 4])) σ := callK_of (cw_eval T_l20_closure (by rfl) e_clos2)
@[go_sem] theorem k_clos3 : CallK T Q k os d e σ true i_l20_closure [coms .lst exL1, .list 2 [.agg [.int .i64 0, .int .i64 2]]] ↔ Run T Q (.ops os :: k) (put e d (.agg [.nils, .int .i64 200])) σ := callK_of (cw_eval T_l20_closure (by rfl) e_clos3)
end
end Go.Abs
