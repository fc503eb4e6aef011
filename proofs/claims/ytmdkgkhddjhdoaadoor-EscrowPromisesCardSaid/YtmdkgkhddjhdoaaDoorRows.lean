/-
  NARROWER THAN 'FOR EVERY INPUT', by the rows' own cells (each row's printed sentence says how): EscrowMatchesReference: laid · EscrowConserves: laid · EscrowIndependence: laid · EscrowMonotone: laid · EscrowAtomic: laid · EscrowPromises: laid.
  DERIVED. THE GIVEN ROWS OF THIS SEAT. 6 by the template 'for every input the law returns true; each argument reads behind the call as it read before'; 0 by the template 'total and deterministic' (their statements: YtmdkgkhddjhdoaaDoorTotals.lean).
  GIVEN WITH THE SEED: the statements are not yours to turn. If you find one false, say at which input.
  Laid BY PROGRAM, IN A SANDBOX (cutbox-rows.mjs): the forced cells as the released guide's own fill.sh prints them over the translation 7c28424ca6e9213e… (all of the seat's roots in one cut). By AI agents, Wed Nov 11 2026. No macro, syntax, notation, axiom, sorry.
-/
import Derived.Test.YtmdkgkhddjhdoaaDoorChecked
import GoSem.Claim
import GoSem.ClaimJoined
import GoSem.ClaimMapViews
import Derived.JoinedTies
import Derived.KernelRfl
namespace Go.Proofs.YtmdkgkhddjhdoaaDoor
/- THE CELL 'sum', in the pinned program and in every row, IS THE sha256 OF THE DUMP (.gsa) THAT YtmdkgkhddjhdoaaDoorProg.lean LOADS. Nothing in Lean hashes anything: it is a label: what it is worth is what the hold of that sum in a sandbox is worth. -/
noncomputable def Tryd.pinned : Pinned := { name := "ytmdkgkhddjhdoaadoor", sum := "7c28424ca6e9213ef380a22d92f4ac75fd39e652d130473f01ff67b97ceb69ab", checked := Tryd.checked }
namespace Rows
def none {H : Type} : Left H := { results := [], args := [] }

/- WHAT THE LISTED PACKAGE-LEVEL VARIABLES READ AS WHEN THE CALL BEGINS. Each datum BY PROGRAM (the guide's laid-datum.mjs) off the statement by which the dump's own 'gosem.cut.vars' lays the variable. In a bare row this is a premise. The card (YtmdkgkhddjhdoaaDoorCards.lean) ties it to the program's text. -/
def laid_chapman_escrow_moves {H : Type} : DataW H := .iface "func table" (.map [(.int .i64 5, .iface "func" (.lit (.string [40, 42, 99, 104, 97, 112, 109, 97, 110, 47, 101, 115, 99, 114, 111, 119, 46, 115, 116, 111, 99, 107, 41, 46, 116, 97, 107, 101]))), (.int .i64 6, .iface "func" (.lit (.string [40, 42, 99, 104, 97, 112, 109, 97, 110, 47, 101, 115, 99, 114, 111, 119, 46, 115, 116, 111, 99, 107, 41, 46, 103, 114, 97, 110, 116])))])

/-- 'chapmanlaw23.EscrowMatchesReference': WHATEVER THE INPUT: true; the input reads as it did. -/
def escrowMatchesReferenceSpec : ChangeSpec := { name := "escrowMatchesReference", fn := fun _ => fun
  | [d1, d2, d3] => { results := [.lit (.bool true)], args := [d1, d2, d3] }
  | _ => none }
def escrowMatchesReferenceRow : OpenClaim := { program := "ytmdkgkhddjhdoaadoor", sum := "7c28424ca6e9213ef380a22d92f4ac75fd39e652d130473f01ff67b97ceb69ab", func := "chapman/chapmanlaw23.EscrowMatchesReference", spec := "escrowMatchesReference", unfollowed := true, recurses := true, named := ["chapman/escrow.moves"], plainKeys := false, apart := false, laid := [("chapman/escrow.moves", laid_chapman_escrow_moves)] }
def EscrowMatchesReferenceSaid : Prop := escrowMatchesReferenceRow.holds Tryd.pinned (OpenSpec.ofChange escrowMatchesReferenceSpec)

/-- ITS FALSE NEIGHBOUR: 'it returns false'. Refute it at one input. -/
def escrowMatchesReferenceWrong : ChangeSpec := { name := "escrowMatchesReference", fn := fun _ => fun
  | [d1, d2, d3] => { results := [.lit (.bool false)], args := [d1, d2, d3] }
  | _ => none }
def EscrowMatchesReferenceWrongFalsely : Prop := escrowMatchesReferenceRow.holds Tryd.pinned (OpenSpec.ofChange escrowMatchesReferenceWrong)

/-- 'chapmanlaw23.EscrowConserves': WHATEVER THE INPUT: true; the input reads as it did. -/
def escrowConservesSpec : ChangeSpec := { name := "escrowConserves", fn := fun _ => fun
  | [d1, d2] => { results := [.lit (.bool true)], args := [d1, d2] }
  | _ => none }
def escrowConservesRow : OpenClaim := { program := "ytmdkgkhddjhdoaadoor", sum := "7c28424ca6e9213ef380a22d92f4ac75fd39e652d130473f01ff67b97ceb69ab", func := "chapman/chapmanlaw23.EscrowConserves", spec := "escrowConserves", unfollowed := true, recurses := true, named := ["chapman/escrow.moves"], plainKeys := false, apart := false, laid := [("chapman/escrow.moves", laid_chapman_escrow_moves)] }
def EscrowConservesSaid : Prop := escrowConservesRow.holds Tryd.pinned (OpenSpec.ofChange escrowConservesSpec)

/-- ITS FALSE NEIGHBOUR: 'it returns false'. Refute it at one input. -/
def escrowConservesWrong : ChangeSpec := { name := "escrowConserves", fn := fun _ => fun
  | [d1, d2] => { results := [.lit (.bool false)], args := [d1, d2] }
  | _ => none }
def EscrowConservesWrongFalsely : Prop := escrowConservesRow.holds Tryd.pinned (OpenSpec.ofChange escrowConservesWrong)

/-- 'chapmanlaw23.EscrowIndependence': WHATEVER THE INPUT: true; the input reads as it did. -/
def escrowIndependenceSpec : ChangeSpec := { name := "escrowIndependence", fn := fun _ => fun
  | [d1, d2, d3] => { results := [.lit (.bool true)], args := [d1, d2, d3] }
  | _ => none }
def escrowIndependenceRow : OpenClaim := { program := "ytmdkgkhddjhdoaadoor", sum := "7c28424ca6e9213ef380a22d92f4ac75fd39e652d130473f01ff67b97ceb69ab", func := "chapman/chapmanlaw23.EscrowIndependence", spec := "escrowIndependence", unfollowed := true, recurses := true, named := ["chapman/escrow.moves"], plainKeys := false, apart := false, laid := [("chapman/escrow.moves", laid_chapman_escrow_moves)] }
def EscrowIndependenceSaid : Prop := escrowIndependenceRow.holds Tryd.pinned (OpenSpec.ofChange escrowIndependenceSpec)

/-- ITS FALSE NEIGHBOUR: 'it returns false'. Refute it at one input. -/
def escrowIndependenceWrong : ChangeSpec := { name := "escrowIndependence", fn := fun _ => fun
  | [d1, d2, d3] => { results := [.lit (.bool false)], args := [d1, d2, d3] }
  | _ => none }
def EscrowIndependenceWrongFalsely : Prop := escrowIndependenceRow.holds Tryd.pinned (OpenSpec.ofChange escrowIndependenceWrong)

/-- 'chapmanlaw23.EscrowMonotone': WHATEVER THE INPUT: true; the input reads as it did. -/
def escrowMonotoneSpec : ChangeSpec := { name := "escrowMonotone", fn := fun _ => fun
  | [d1, d2, d3] => { results := [.lit (.bool true)], args := [d1, d2, d3] }
  | _ => none }
def escrowMonotoneRow : OpenClaim := { program := "ytmdkgkhddjhdoaadoor", sum := "7c28424ca6e9213ef380a22d92f4ac75fd39e652d130473f01ff67b97ceb69ab", func := "chapman/chapmanlaw23.EscrowMonotone", spec := "escrowMonotone", unfollowed := true, recurses := true, named := ["chapman/escrow.moves"], plainKeys := false, apart := false, laid := [("chapman/escrow.moves", laid_chapman_escrow_moves)] }
def EscrowMonotoneSaid : Prop := escrowMonotoneRow.holds Tryd.pinned (OpenSpec.ofChange escrowMonotoneSpec)

/-- ITS FALSE NEIGHBOUR: 'it returns false'. Refute it at one input. -/
def escrowMonotoneWrong : ChangeSpec := { name := "escrowMonotone", fn := fun _ => fun
  | [d1, d2, d3] => { results := [.lit (.bool false)], args := [d1, d2, d3] }
  | _ => none }
def EscrowMonotoneWrongFalsely : Prop := escrowMonotoneRow.holds Tryd.pinned (OpenSpec.ofChange escrowMonotoneWrong)

/-- 'chapmanlaw23.EscrowAtomic': WHATEVER THE INPUT: true; the input reads as it did. -/
def escrowAtomicSpec : ChangeSpec := { name := "escrowAtomic", fn := fun _ => fun
  | [d1, d2, d3] => { results := [.lit (.bool true)], args := [d1, d2, d3] }
  | _ => none }
def escrowAtomicRow : OpenClaim := { program := "ytmdkgkhddjhdoaadoor", sum := "7c28424ca6e9213ef380a22d92f4ac75fd39e652d130473f01ff67b97ceb69ab", func := "chapman/chapmanlaw23.EscrowAtomic", spec := "escrowAtomic", unfollowed := true, recurses := true, named := ["chapman/escrow.moves"], plainKeys := false, apart := false, laid := [("chapman/escrow.moves", laid_chapman_escrow_moves)] }
def EscrowAtomicSaid : Prop := escrowAtomicRow.holds Tryd.pinned (OpenSpec.ofChange escrowAtomicSpec)

/-- ITS FALSE NEIGHBOUR: 'it returns false'. Refute it at one input. -/
def escrowAtomicWrong : ChangeSpec := { name := "escrowAtomic", fn := fun _ => fun
  | [d1, d2, d3] => { results := [.lit (.bool false)], args := [d1, d2, d3] }
  | _ => none }
def EscrowAtomicWrongFalsely : Prop := escrowAtomicRow.holds Tryd.pinned (OpenSpec.ofChange escrowAtomicWrong)

/-- 'chapmanlaw23.EscrowPromises': WHATEVER THE INPUT: true; the input reads as it did. -/
def escrowPromisesSpec : ChangeSpec := { name := "escrowPromises", fn := fun _ => fun
  | [d1, d2, d3] => { results := [.lit (.bool true)], args := [d1, d2, d3] }
  | _ => none }
def escrowPromisesRow : OpenClaim := { program := "ytmdkgkhddjhdoaadoor", sum := "7c28424ca6e9213ef380a22d92f4ac75fd39e652d130473f01ff67b97ceb69ab", func := "chapman/chapmanlaw23.EscrowPromises", spec := "escrowPromises", unfollowed := true, recurses := true, named := ["chapman/escrow.moves"], plainKeys := false, apart := false, laid := [("chapman/escrow.moves", laid_chapman_escrow_moves)] }
def EscrowPromisesSaid : Prop := escrowPromisesRow.holds Tryd.pinned (OpenSpec.ofChange escrowPromisesSpec)

/-- ITS FALSE NEIGHBOUR: 'it returns false'. Refute it at one input. -/
def escrowPromisesWrong : ChangeSpec := { name := "escrowPromises", fn := fun _ => fun
  | [d1, d2, d3] => { results := [.lit (.bool false)], args := [d1, d2, d3] }
  | _ => none }
def EscrowPromisesWrongFalsely : Prop := escrowPromisesRow.holds Tryd.pinned (OpenSpec.ofChange escrowPromisesWrong)

/- THE SECOND FORM. 'bulk': how many values and letters a reading holds, each counted each time it is reached (what is shared counts as often as it is met; a slice's spare places count too). A statement '..UptoSaid' is the law's where the arguments, and the package variables that the reading takes, are together of bulk at most 1048576: NARROWER than '..Said'. Prove '..Said' where nothing that the law and all that it calls make is longer than what came in: it says more and counts as full. Else prove '..UptoSaid'. A law counts once. -/
mutual
def uptoBulk {H : Type} : DataW H → Nat
  | .lit (.string bytes) => bytes.length + 1
  | .lit _ => 1
  | .nil => 1
  | .ptr d => uptoBulk d + 1
  | .slice elems spare => uptoBulkAll elems + uptoBulkAll spare + 1
  | .agg parts => uptoBulkAll parts + 1
  | .iface _ d => uptoBulk d + 1
  | .map entries => uptoBulkEntries entries + 1
  | .held _ => 1
def uptoBulkAll {H : Type} : List (DataW H) → Nat
  | [] => 0
  | d :: r => uptoBulk d + uptoBulkAll r
def uptoBulkEntries {H : Type} : List (Lit × DataW H) → Nat
  | [] => 0
  | x :: r => uptoBulkEntry x + uptoBulkEntries r
def uptoBulkEntry {H : Type} : Lit × DataW H → Nat
  | (.string bytes, d) => bytes.length + uptoBulk d + 1
  | (_, d) => uptoBulk d + 1
 end
def uptoSmall : (H : Type) → List (DataW H) → Bool := fun _ ds => decide (uptoBulkAll ds ≤ 1048576)
def OpenSpec.upto (s : _root_.Go.ChangeSpec) : _root_.Go.OpenSpec := { _root_.Go.OpenSpec.ofChange s with cond := some uptoSmall }

/-- 'chapmanlaw23.EscrowMatchesReference', WHERE WHAT IT READS IS OF BULK AT MOST 1048576: true; the input reads as it did. -/
def escrowMatchesReferenceUptoRow : OpenClaim := { program := "ytmdkgkhddjhdoaadoor", sum := "7c28424ca6e9213ef380a22d92f4ac75fd39e652d130473f01ff67b97ceb69ab", func := "chapman/chapmanlaw23.EscrowMatchesReference", spec := "escrowMatchesReference", unfollowed := true, recurses := true, named := ["chapman/escrow.moves"], plainKeys := false, apart := false, laid := [("chapman/escrow.moves", laid_chapman_escrow_moves)], narrowed := true }
def EscrowMatchesReferenceUptoSaid : Prop := escrowMatchesReferenceUptoRow.holds Tryd.pinned (OpenSpec.upto escrowMatchesReferenceSpec)

/-- 'chapmanlaw23.EscrowConserves', WHERE WHAT IT READS IS OF BULK AT MOST 1048576: true; the input reads as it did. -/
def escrowConservesUptoRow : OpenClaim := { program := "ytmdkgkhddjhdoaadoor", sum := "7c28424ca6e9213ef380a22d92f4ac75fd39e652d130473f01ff67b97ceb69ab", func := "chapman/chapmanlaw23.EscrowConserves", spec := "escrowConserves", unfollowed := true, recurses := true, named := ["chapman/escrow.moves"], plainKeys := false, apart := false, laid := [("chapman/escrow.moves", laid_chapman_escrow_moves)], narrowed := true }
def EscrowConservesUptoSaid : Prop := escrowConservesUptoRow.holds Tryd.pinned (OpenSpec.upto escrowConservesSpec)

/-- 'chapmanlaw23.EscrowIndependence', WHERE WHAT IT READS IS OF BULK AT MOST 1048576: true; the input reads as it did. -/
def escrowIndependenceUptoRow : OpenClaim := { program := "ytmdkgkhddjhdoaadoor", sum := "7c28424ca6e9213ef380a22d92f4ac75fd39e652d130473f01ff67b97ceb69ab", func := "chapman/chapmanlaw23.EscrowIndependence", spec := "escrowIndependence", unfollowed := true, recurses := true, named := ["chapman/escrow.moves"], plainKeys := false, apart := false, laid := [("chapman/escrow.moves", laid_chapman_escrow_moves)], narrowed := true }
def EscrowIndependenceUptoSaid : Prop := escrowIndependenceUptoRow.holds Tryd.pinned (OpenSpec.upto escrowIndependenceSpec)

/-- 'chapmanlaw23.EscrowMonotone', WHERE WHAT IT READS IS OF BULK AT MOST 1048576: true; the input reads as it did. -/
def escrowMonotoneUptoRow : OpenClaim := { program := "ytmdkgkhddjhdoaadoor", sum := "7c28424ca6e9213ef380a22d92f4ac75fd39e652d130473f01ff67b97ceb69ab", func := "chapman/chapmanlaw23.EscrowMonotone", spec := "escrowMonotone", unfollowed := true, recurses := true, named := ["chapman/escrow.moves"], plainKeys := false, apart := false, laid := [("chapman/escrow.moves", laid_chapman_escrow_moves)], narrowed := true }
def EscrowMonotoneUptoSaid : Prop := escrowMonotoneUptoRow.holds Tryd.pinned (OpenSpec.upto escrowMonotoneSpec)

/-- 'chapmanlaw23.EscrowAtomic', WHERE WHAT IT READS IS OF BULK AT MOST 1048576: true; the input reads as it did. -/
def escrowAtomicUptoRow : OpenClaim := { program := "ytmdkgkhddjhdoaadoor", sum := "7c28424ca6e9213ef380a22d92f4ac75fd39e652d130473f01ff67b97ceb69ab", func := "chapman/chapmanlaw23.EscrowAtomic", spec := "escrowAtomic", unfollowed := true, recurses := true, named := ["chapman/escrow.moves"], plainKeys := false, apart := false, laid := [("chapman/escrow.moves", laid_chapman_escrow_moves)], narrowed := true }
def EscrowAtomicUptoSaid : Prop := escrowAtomicUptoRow.holds Tryd.pinned (OpenSpec.upto escrowAtomicSpec)

/-- 'chapmanlaw23.EscrowPromises', WHERE WHAT IT READS IS OF BULK AT MOST 1048576: true; the input reads as it did. -/
def escrowPromisesUptoRow : OpenClaim := { program := "ytmdkgkhddjhdoaadoor", sum := "7c28424ca6e9213ef380a22d92f4ac75fd39e652d130473f01ff67b97ceb69ab", func := "chapman/chapmanlaw23.EscrowPromises", spec := "escrowPromises", unfollowed := true, recurses := true, named := ["chapman/escrow.moves"], plainKeys := false, apart := false, laid := [("chapman/escrow.moves", laid_chapman_escrow_moves)], narrowed := true }
def EscrowPromisesUptoSaid : Prop := escrowPromisesUptoRow.holds Tryd.pinned (OpenSpec.upto escrowPromisesSpec)

end Rows
end Go.Proofs.YtmdkgkhddjhdoaaDoor
