/- Chapter 23: the examples, by evaluation. -/
import Derived.Test.YtmdkgkhddjhdoaaDoorJD20A
import Derived.Test.YtmdkgkhddjhdoaaDoorJAbsLaw
import Derived.KernelRfl
set_option linter.all false
namespace Go.Abs
open Go

theorem l23_examples_says : fSays T 1000 i_l23_examples [] AVal.isTrue = true := by kernel_rfl
theorem l23_examples_spec {lv : List Nat} {σ : Sto} {R : Post} : Cw T true i_l23_examples [] lv σ R ↔ R (.bool true) σ := cw_true T_l23_examples rfl l23_examples_says
@[go_sem] theorem l23_examples_call {Q : Post3} {k : List Item} {os : List AOper} {d : Option Nat} {e : Env} {σ : Sto} : CallK T Q k os d e σ true i_l23_examples [] ↔ Run T Q (.ops os :: k) (put e d (.bool true)) σ := l23_examples_spec
end Go.Abs
