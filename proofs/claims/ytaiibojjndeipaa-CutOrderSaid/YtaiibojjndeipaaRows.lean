/-
  No cell of these rows narrows 'for every input' (looked for: loops, veiled, ifaces, maps, wideKeys, modest, calm, conditions, laid).
  DERIVED. THE GIVEN ROWS OF THIS SEAT. 6 by the template 'for every input the law returns true; each argument reads behind the call as it read before'; 0 by the template 'total and deterministic' (their statements: YtaiibojjndeipaaTotals.lean).
  GIVEN WITH THE SEED: the statements are not yours to turn. If you find one false, say at which input.
  Laid BY PROGRAM, IN A SANDBOX (cutbox-rows.mjs): the forced cells as the released guide's own fill.sh prints them over the translation e990e8d8f6f7db6f… (all of the seat's roots in one cut). By AI agents, Wed Nov 11 2026. No macro, syntax, notation, axiom, sorry.
-/
import Derived.Test.YtaiibojjndeipaaChecked
import GoSem.Claim
import GoSem.ClaimJoined
import GoSem.ClaimMapViews
import Derived.JoinedTies
import Derived.KernelRfl
namespace Go.Proofs.Ytaiibojjndeipaa
/- THE CELL 'sum', in the pinned program and in every row, IS THE sha256 OF THE DUMP (.gsa) THAT YtaiibojjndeipaaProg.lean LOADS. Nothing in Lean hashes anything: it is a label: what it is worth is what the hold of that sum in a sandbox is worth. -/
noncomputable def Try.pinned : Pinned := { name := "ytaiibojjndeipaa", sum := "e990e8d8f6f7db6fbd17233749c92b640e079530038354a5f12e08bc928db40e", checked := Try.checked }
namespace Rows
def none {H : Type} : Left H := { results := [], args := [] }

/-- 'chapmanlaw20.CutMatchesReference': WHATEVER THE INPUT: true; the input reads as it did. -/
def cutMatchesReferenceSpec : ChangeSpec := { name := "cutMatchesReference", fn := fun _ => fun
  | [d1, d2, d3] => { results := [.lit (.bool true)], args := [d1, d2, d3] }
  | _ => none }
def cutMatchesReferenceRow : OpenClaim := { program := "ytaiibojjndeipaa", sum := "e990e8d8f6f7db6fbd17233749c92b640e079530038354a5f12e08bc928db40e", func := "chapman/chapmanlaw20.CutMatchesReference", spec := "cutMatchesReference", unfollowed := true, recurses := true, plainKeys := false, apart := false }
def CutMatchesReferenceSaid : Prop := cutMatchesReferenceRow.holds Try.pinned (OpenSpec.ofChange cutMatchesReferenceSpec)

/-- ITS FALSE NEIGHBOUR: 'it returns false'. Refute it at one input. -/
def cutMatchesReferenceWrong : ChangeSpec := { name := "cutMatchesReference", fn := fun _ => fun
  | [d1, d2, d3] => { results := [.lit (.bool false)], args := [d1, d2, d3] }
  | _ => none }
def CutMatchesReferenceWrongFalsely : Prop := cutMatchesReferenceRow.holds Try.pinned (OpenSpec.ofChange cutMatchesReferenceWrong)

/-- 'chapmanlaw20.CutLattice': WHATEVER THE INPUT: true; the input reads as it did. -/
def cutLatticeSpec : ChangeSpec := { name := "cutLattice", fn := fun _ => fun
  | [d1, d2] => { results := [.lit (.bool true)], args := [d1, d2] }
  | _ => none }
def cutLatticeRow : OpenClaim := { program := "ytaiibojjndeipaa", sum := "e990e8d8f6f7db6fbd17233749c92b640e079530038354a5f12e08bc928db40e", func := "chapman/chapmanlaw20.CutLattice", spec := "cutLattice", unfollowed := true, recurses := true, plainKeys := false, apart := false }
def CutLatticeSaid : Prop := cutLatticeRow.holds Try.pinned (OpenSpec.ofChange cutLatticeSpec)

/-- ITS FALSE NEIGHBOUR: 'it returns false'. Refute it at one input. -/
def cutLatticeWrong : ChangeSpec := { name := "cutLattice", fn := fun _ => fun
  | [d1, d2] => { results := [.lit (.bool false)], args := [d1, d2] }
  | _ => none }
def CutLatticeWrongFalsely : Prop := cutLatticeRow.holds Try.pinned (OpenSpec.ofChange cutLatticeWrong)

/-- 'chapmanlaw20.CutGreatest': WHATEVER THE INPUT: true; the input reads as it did. -/
def cutGreatestSpec : ChangeSpec := { name := "cutGreatest", fn := fun _ => fun
  | [d1, d2] => { results := [.lit (.bool true)], args := [d1, d2] }
  | _ => none }
def cutGreatestRow : OpenClaim := { program := "ytaiibojjndeipaa", sum := "e990e8d8f6f7db6fbd17233749c92b640e079530038354a5f12e08bc928db40e", func := "chapman/chapmanlaw20.CutGreatest", spec := "cutGreatest", unfollowed := true, recurses := true, plainKeys := false, apart := false }
def CutGreatestSaid : Prop := cutGreatestRow.holds Try.pinned (OpenSpec.ofChange cutGreatestSpec)

/-- ITS FALSE NEIGHBOUR: 'it returns false'. Refute it at one input. -/
def cutGreatestWrong : ChangeSpec := { name := "cutGreatest", fn := fun _ => fun
  | [d1, d2] => { results := [.lit (.bool false)], args := [d1, d2] }
  | _ => none }
def CutGreatestWrongFalsely : Prop := cutGreatestRow.holds Try.pinned (OpenSpec.ofChange cutGreatestWrong)

/-- 'chapmanlaw20.CutOrder': WHATEVER THE INPUT: true; the input reads as it did. -/
def cutOrderSpec : ChangeSpec := { name := "cutOrder", fn := fun _ => fun
  | [d1, d2] => { results := [.lit (.bool true)], args := [d1, d2] }
  | _ => none }
def cutOrderRow : OpenClaim := { program := "ytaiibojjndeipaa", sum := "e990e8d8f6f7db6fbd17233749c92b640e079530038354a5f12e08bc928db40e", func := "chapman/chapmanlaw20.CutOrder", spec := "cutOrder", unfollowed := true, recurses := true, plainKeys := false, apart := false }
def CutOrderSaid : Prop := cutOrderRow.holds Try.pinned (OpenSpec.ofChange cutOrderSpec)

/-- ITS FALSE NEIGHBOUR: 'it returns false'. Refute it at one input. -/
def cutOrderWrong : ChangeSpec := { name := "cutOrder", fn := fun _ => fun
  | [d1, d2] => { results := [.lit (.bool false)], args := [d1, d2] }
  | _ => none }
def CutOrderWrongFalsely : Prop := cutOrderRow.holds Try.pinned (OpenSpec.ofChange cutOrderWrong)

/-- 'chapmanlaw20.CutCausal': WHATEVER THE INPUT: true; the input reads as it did. -/
def cutCausalSpec : ChangeSpec := { name := "cutCausal", fn := fun _ => fun
  | [d] => { results := [.lit (.bool true)], args := [d] }
  | _ => none }
def cutCausalRow : OpenClaim := { program := "ytaiibojjndeipaa", sum := "e990e8d8f6f7db6fbd17233749c92b640e079530038354a5f12e08bc928db40e", func := "chapman/chapmanlaw20.CutCausal", spec := "cutCausal", unfollowed := true, recurses := true, plainKeys := false, apart := false }
def CutCausalSaid : Prop := cutCausalRow.holds Try.pinned (OpenSpec.ofChange cutCausalSpec)

/-- ITS FALSE NEIGHBOUR: 'it returns false'. Refute it at one input. -/
def cutCausalWrong : ChangeSpec := { name := "cutCausal", fn := fun _ => fun
  | [d] => { results := [.lit (.bool false)], args := [d] }
  | _ => none }
def CutCausalWrongFalsely : Prop := cutCausalRow.holds Try.pinned (OpenSpec.ofChange cutCausalWrong)

/-- 'chapmanlaw20.CutClosures': WHATEVER THE INPUT: true; the input reads as it did. -/
def cutClosuresSpec : ChangeSpec := { name := "cutClosures", fn := fun _ => fun
  | [d1, d2] => { results := [.lit (.bool true)], args := [d1, d2] }
  | _ => none }
def cutClosuresRow : OpenClaim := { program := "ytaiibojjndeipaa", sum := "e990e8d8f6f7db6fbd17233749c92b640e079530038354a5f12e08bc928db40e", func := "chapman/chapmanlaw20.CutClosures", spec := "cutClosures", unfollowed := true, recurses := true, plainKeys := false, apart := false }
def CutClosuresSaid : Prop := cutClosuresRow.holds Try.pinned (OpenSpec.ofChange cutClosuresSpec)

/-- ITS FALSE NEIGHBOUR: 'it returns false'. Refute it at one input. -/
def cutClosuresWrong : ChangeSpec := { name := "cutClosures", fn := fun _ => fun
  | [d1, d2] => { results := [.lit (.bool false)], args := [d1, d2] }
  | _ => none }
def CutClosuresWrongFalsely : Prop := cutClosuresRow.holds Try.pinned (OpenSpec.ofChange cutClosuresWrong)

/- THE SECOND FORM. 'bulk': how many values and letters a reading holds, each counted each time it is reached (what is shared counts as often as it is met; a slice's spare places count too). A statement '..UptoSaid' is the law's where the arguments, and the package variables that the reading takes, are together of bulk at most 1048576: NARROWER than '..Said'. Prove '..Said' where nothing that the law and all that it calls make is longer than what came in: it says more and counts as full. Else prove '..UptoSaid'. A law counts once. -/
mutual
def uptoBulk {H : Type} : DataW H → Nat
  | .lit (.string bytes) => bytes.length + 1
  | .lit _ => 1
  | .nil => 1
  | .ptr d => uptoBulk d + 1
  | .slice elems spare => uptoBulkAll elems + uptoBulkAll spare + 1
  | .agg parts => uptoBulkAll parts + 1
  | .iface _ d => uptoBulk d + 1
  | .map entries => uptoBulkEntries entries + 1
  | .held _ => 1
def uptoBulkAll {H : Type} : List (DataW H) → Nat
  | [] => 0
  | d :: r => uptoBulk d + uptoBulkAll r
def uptoBulkEntries {H : Type} : List (Lit × DataW H) → Nat
  | [] => 0
  | x :: r => uptoBulkEntry x + uptoBulkEntries r
def uptoBulkEntry {H : Type} : Lit × DataW H → Nat
  | (.string bytes, d) => bytes.length + uptoBulk d + 1
  | (_, d) => uptoBulk d + 1
 end
def uptoSmall : (H : Type) → List (DataW H) → Bool := fun _ ds => decide (uptoBulkAll ds ≤ 1048576)
def OpenSpec.upto (s : _root_.Go.ChangeSpec) : _root_.Go.OpenSpec := { _root_.Go.OpenSpec.ofChange s with cond := some uptoSmall }

/-- 'chapmanlaw20.CutMatchesReference', WHERE WHAT IT READS IS OF BULK AT MOST 1048576: true; the input reads as it did. -/
def cutMatchesReferenceUptoRow : OpenClaim := { program := "ytaiibojjndeipaa", sum := "e990e8d8f6f7db6fbd17233749c92b640e079530038354a5f12e08bc928db40e", func := "chapman/chapmanlaw20.CutMatchesReference", spec := "cutMatchesReference", unfollowed := true, recurses := true, plainKeys := false, apart := false, narrowed := true }
def CutMatchesReferenceUptoSaid : Prop := cutMatchesReferenceUptoRow.holds Try.pinned (OpenSpec.upto cutMatchesReferenceSpec)

/-- 'chapmanlaw20.CutLattice', WHERE WHAT IT READS IS OF BULK AT MOST 1048576: true; the input reads as it did. -/
def cutLatticeUptoRow : OpenClaim := { program := "ytaiibojjndeipaa", sum := "e990e8d8f6f7db6fbd17233749c92b640e079530038354a5f12e08bc928db40e", func := "chapman/chapmanlaw20.CutLattice", spec := "cutLattice", unfollowed := true, recurses := true, plainKeys := false, apart := false, narrowed := true }
def CutLatticeUptoSaid : Prop := cutLatticeUptoRow.holds Try.pinned (OpenSpec.upto cutLatticeSpec)

/-- 'chapmanlaw20.CutGreatest', WHERE WHAT IT READS IS OF BULK AT MOST 1048576: true; the input reads as it did. -/
def cutGreatestUptoRow : OpenClaim := { program := "ytaiibojjndeipaa", sum := "e990e8d8f6f7db6fbd17233749c92b640e079530038354a5f12e08bc928db40e", func := "chapman/chapmanlaw20.CutGreatest", spec := "cutGreatest", unfollowed := true, recurses := true, plainKeys := false, apart := false, narrowed := true }
def CutGreatestUptoSaid : Prop := cutGreatestUptoRow.holds Try.pinned (OpenSpec.upto cutGreatestSpec)

/-- 'chapmanlaw20.CutOrder', WHERE WHAT IT READS IS OF BULK AT MOST 1048576: true; the input reads as it did. -/
def cutOrderUptoRow : OpenClaim := { program := "ytaiibojjndeipaa", sum := "e990e8d8f6f7db6fbd17233749c92b640e079530038354a5f12e08bc928db40e", func := "chapman/chapmanlaw20.CutOrder", spec := "cutOrder", unfollowed := true, recurses := true, plainKeys := false, apart := false, narrowed := true }
def CutOrderUptoSaid : Prop := cutOrderUptoRow.holds Try.pinned (OpenSpec.upto cutOrderSpec)

/-- 'chapmanlaw20.CutCausal', WHERE WHAT IT READS IS OF BULK AT MOST 1048576: true; the input reads as it did. -/
def cutCausalUptoRow : OpenClaim := { program := "ytaiibojjndeipaa", sum := "e990e8d8f6f7db6fbd17233749c92b640e079530038354a5f12e08bc928db40e", func := "chapman/chapmanlaw20.CutCausal", spec := "cutCausal", unfollowed := true, recurses := true, plainKeys := false, apart := false, narrowed := true }
def CutCausalUptoSaid : Prop := cutCausalUptoRow.holds Try.pinned (OpenSpec.upto cutCausalSpec)

/-- 'chapmanlaw20.CutClosures', WHERE WHAT IT READS IS OF BULK AT MOST 1048576: true; the input reads as it did. -/
def cutClosuresUptoRow : OpenClaim := { program := "ytaiibojjndeipaa", sum := "e990e8d8f6f7db6fbd17233749c92b640e079530038354a5f12e08bc928db40e", func := "chapman/chapmanlaw20.CutClosures", spec := "cutClosures", unfollowed := true, recurses := true, plainKeys := false, apart := false, narrowed := true }
def CutClosuresUptoSaid : Prop := cutClosuresUptoRow.holds Try.pinned (OpenSpec.upto cutClosuresSpec)

end Rows
end Go.Proofs.Ytaiibojjndeipaa
