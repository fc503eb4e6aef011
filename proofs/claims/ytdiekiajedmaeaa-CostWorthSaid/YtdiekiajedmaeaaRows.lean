/-
  No cell of these rows narrows 'for every input' (looked for: loops, veiled, ifaces, maps, wideKeys, modest, calm, conditions, laid).
  DERIVED. THE GIVEN ROWS OF THIS SEAT. 6 by the template 'for every input the law returns true; each argument reads behind the call as it read before'; 0 by the template 'total and deterministic' (their statements: YtdiekiajedmaeaaTotals.lean).
  GIVEN WITH THE SEED: the statements are not yours to turn. If you find one false, say at which input.
  Laid BY PROGRAM, IN A SANDBOX (cutbox-rows.mjs): the forced cells as the released guide's own fill.sh prints them over the translation 5498550b696096bc… (all of the seat's roots in one cut). By AI agents, Wed Nov 11 2026. No macro, syntax, notation, axiom, sorry.
-/
import Derived.Test.YtdiekiajedmaeaaChecked
import GoSem.Claim
import GoSem.ClaimJoined
import GoSem.ClaimMapViews
import Derived.JoinedTies
import Derived.KernelRfl
namespace Go.Proofs.Ytdiekiajedmaeaa
/- THE CELL 'sum', in the pinned program and in every row, IS THE sha256 OF THE DUMP (.gsa) THAT YtdiekiajedmaeaaProg.lean LOADS. Nothing in Lean hashes anything: it is a label: what it is worth is what the hold of that sum in a sandbox is worth. -/
noncomputable def Try.pinned : Pinned := { name := "ytdiekiajedmaeaa", sum := "5498550b696096bc459a0b87678d68245b7b1dbb850c2850f24f9ae97648dadf", checked := Try.checked }
namespace Rows
def none {H : Type} : Left H := { results := [], args := [] }

/-- 'chapmanlaw36.CostMatchesReference': WHATEVER THE INPUT: true; the input reads as it did. -/
def costMatchesReferenceSpec : ChangeSpec := { name := "costMatchesReference", fn := fun _ => fun
  | [d1, d2, d3] => { results := [.lit (.bool true)], args := [d1, d2, d3] }
  | _ => none }
def costMatchesReferenceRow : OpenClaim := { program := "ytdiekiajedmaeaa", sum := "5498550b696096bc459a0b87678d68245b7b1dbb850c2850f24f9ae97648dadf", func := "chapman/chapmanlaw36.CostMatchesReference", spec := "costMatchesReference", unfollowed := true, recurses := true, apart := false }
def CostMatchesReferenceSaid : Prop := costMatchesReferenceRow.holds Try.pinned (OpenSpec.ofChange costMatchesReferenceSpec)

/-- ITS FALSE NEIGHBOUR: 'it returns false'. Refute it at one input. -/
def costMatchesReferenceWrong : ChangeSpec := { name := "costMatchesReference", fn := fun _ => fun
  | [d1, d2, d3] => { results := [.lit (.bool false)], args := [d1, d2, d3] }
  | _ => none }
def CostMatchesReferenceWrongFalsely : Prop := costMatchesReferenceRow.holds Try.pinned (OpenSpec.ofChange costMatchesReferenceWrong)

/-- 'chapmanlaw36.CostFew': WHATEVER THE INPUT: true; the input reads as it did. -/
def costFewSpec : ChangeSpec := { name := "costFew", fn := fun _ => fun
  | [d] => { results := [.lit (.bool true)], args := [d] }
  | _ => none }
def costFewRow : OpenClaim := { program := "ytdiekiajedmaeaa", sum := "5498550b696096bc459a0b87678d68245b7b1dbb850c2850f24f9ae97648dadf", func := "chapman/chapmanlaw36.CostFew", spec := "costFew", unfollowed := true, recurses := true, apart := false }
def CostFewSaid : Prop := costFewRow.holds Try.pinned (OpenSpec.ofChange costFewSpec)

/-- ITS FALSE NEIGHBOUR: 'it returns false'. Refute it at one input. -/
def costFewWrong : ChangeSpec := { name := "costFew", fn := fun _ => fun
  | [d] => { results := [.lit (.bool false)], args := [d] }
  | _ => none }
def CostFewWrongFalsely : Prop := costFewRow.holds Try.pinned (OpenSpec.ofChange costFewWrong)

/-- 'chapmanlaw36.CostWrites': WHATEVER THE INPUT: true; the input reads as it did. -/
def costWritesSpec : ChangeSpec := { name := "costWrites", fn := fun _ => fun
  | [d1, d2] => { results := [.lit (.bool true)], args := [d1, d2] }
  | _ => none }
def costWritesRow : OpenClaim := { program := "ytdiekiajedmaeaa", sum := "5498550b696096bc459a0b87678d68245b7b1dbb850c2850f24f9ae97648dadf", func := "chapman/chapmanlaw36.CostWrites", spec := "costWrites", unfollowed := true, recurses := true, apart := false }
def CostWritesSaid : Prop := costWritesRow.holds Try.pinned (OpenSpec.ofChange costWritesSpec)

/-- ITS FALSE NEIGHBOUR: 'it returns false'. Refute it at one input. -/
def costWritesWrong : ChangeSpec := { name := "costWrites", fn := fun _ => fun
  | [d1, d2] => { results := [.lit (.bool false)], args := [d1, d2] }
  | _ => none }
def CostWritesWrongFalsely : Prop := costWritesRow.holds Try.pinned (OpenSpec.ofChange costWritesWrong)

/-- 'chapmanlaw36.CostSums': WHATEVER THE INPUT: true; the input reads as it did. -/
def costSumsSpec : ChangeSpec := { name := "costSums", fn := fun _ => fun
  | [d1, d2] => { results := [.lit (.bool true)], args := [d1, d2] }
  | _ => none }
def costSumsRow : OpenClaim := { program := "ytdiekiajedmaeaa", sum := "5498550b696096bc459a0b87678d68245b7b1dbb850c2850f24f9ae97648dadf", func := "chapman/chapmanlaw36.CostSums", spec := "costSums", unfollowed := true, recurses := true, apart := false }
def CostSumsSaid : Prop := costSumsRow.holds Try.pinned (OpenSpec.ofChange costSumsSpec)

/-- ITS FALSE NEIGHBOUR: 'it returns false'. Refute it at one input. -/
def costSumsWrong : ChangeSpec := { name := "costSums", fn := fun _ => fun
  | [d1, d2] => { results := [.lit (.bool false)], args := [d1, d2] }
  | _ => none }
def CostSumsWrongFalsely : Prop := costSumsRow.holds Try.pinned (OpenSpec.ofChange costSumsWrong)

/-- 'chapmanlaw36.CostWorth': WHATEVER THE INPUT: true; the input reads as it did. -/
def costWorthSpec : ChangeSpec := { name := "costWorth", fn := fun _ => fun
  | [d1, d2, d3] => { results := [.lit (.bool true)], args := [d1, d2, d3] }
  | _ => none }
def costWorthRow : OpenClaim := { program := "ytdiekiajedmaeaa", sum := "5498550b696096bc459a0b87678d68245b7b1dbb850c2850f24f9ae97648dadf", func := "chapman/chapmanlaw36.CostWorth", spec := "costWorth", unfollowed := true, recurses := true, apart := false }
def CostWorthSaid : Prop := costWorthRow.holds Try.pinned (OpenSpec.ofChange costWorthSpec)

/-- ITS FALSE NEIGHBOUR: 'it returns false'. Refute it at one input. -/
def costWorthWrong : ChangeSpec := { name := "costWorth", fn := fun _ => fun
  | [d1, d2, d3] => { results := [.lit (.bool false)], args := [d1, d2, d3] }
  | _ => none }
def CostWorthWrongFalsely : Prop := costWorthRow.holds Try.pinned (OpenSpec.ofChange costWorthWrong)

/-- 'chapmanlaw36.CostChoice': WHATEVER THE INPUT: true; the input reads as it did. -/
def costChoiceSpec : ChangeSpec := { name := "costChoice", fn := fun _ => fun
  | [d1, d2] => { results := [.lit (.bool true)], args := [d1, d2] }
  | _ => none }
def costChoiceRow : OpenClaim := { program := "ytdiekiajedmaeaa", sum := "5498550b696096bc459a0b87678d68245b7b1dbb850c2850f24f9ae97648dadf", func := "chapman/chapmanlaw36.CostChoice", spec := "costChoice", unfollowed := true, recurses := true, apart := false }
def CostChoiceSaid : Prop := costChoiceRow.holds Try.pinned (OpenSpec.ofChange costChoiceSpec)

/-- ITS FALSE NEIGHBOUR: 'it returns false'. Refute it at one input. -/
def costChoiceWrong : ChangeSpec := { name := "costChoice", fn := fun _ => fun
  | [d1, d2] => { results := [.lit (.bool false)], args := [d1, d2] }
  | _ => none }
def CostChoiceWrongFalsely : Prop := costChoiceRow.holds Try.pinned (OpenSpec.ofChange costChoiceWrong)

/- THE SECOND FORM. 'bulk': how many values and letters a reading holds, each counted each time it is reached (what is shared counts as often as it is met; a slice's spare places count too). A statement '..UptoSaid' is the law's where the arguments, and the package variables that the reading takes, are together of bulk at most 1048576: NARROWER than '..Said'. Prove '..Said' where nothing that the law and all that it calls make is longer than what came in: it says more and counts as full. Else prove '..UptoSaid'. A law counts once. -/
mutual
def uptoBulk {H : Type} : DataW H → Nat
  | .lit (.string bytes) => bytes.length + 1
  | .lit _ => 1
  | .nil => 1
  | .ptr d => uptoBulk d + 1
  | .slice elems spare => uptoBulkAll elems + uptoBulkAll spare + 1
  | .agg parts => uptoBulkAll parts + 1
  | .iface _ d => uptoBulk d + 1
  | .map entries => uptoBulkEntries entries + 1
  | .held _ => 1
def uptoBulkAll {H : Type} : List (DataW H) → Nat
  | [] => 0
  | d :: r => uptoBulk d + uptoBulkAll r
def uptoBulkEntries {H : Type} : List (Lit × DataW H) → Nat
  | [] => 0
  | x :: r => uptoBulkEntry x + uptoBulkEntries r
def uptoBulkEntry {H : Type} : Lit × DataW H → Nat
  | (.string bytes, d) => bytes.length + uptoBulk d + 1
  | (_, d) => uptoBulk d + 1
 end
def uptoSmall : (H : Type) → List (DataW H) → Bool := fun _ ds => decide (uptoBulkAll ds ≤ 1048576)
def OpenSpec.upto (s : _root_.Go.ChangeSpec) : _root_.Go.OpenSpec := { _root_.Go.OpenSpec.ofChange s with cond := some uptoSmall }

/-- 'chapmanlaw36.CostMatchesReference', WHERE WHAT IT READS IS OF BULK AT MOST 1048576: true; the input reads as it did. -/
def costMatchesReferenceUptoRow : OpenClaim := { program := "ytdiekiajedmaeaa", sum := "5498550b696096bc459a0b87678d68245b7b1dbb850c2850f24f9ae97648dadf", func := "chapman/chapmanlaw36.CostMatchesReference", spec := "costMatchesReference", unfollowed := true, recurses := true, apart := false, narrowed := true }
def CostMatchesReferenceUptoSaid : Prop := costMatchesReferenceUptoRow.holds Try.pinned (OpenSpec.upto costMatchesReferenceSpec)

/-- 'chapmanlaw36.CostFew', WHERE WHAT IT READS IS OF BULK AT MOST 1048576: true; the input reads as it did. -/
def costFewUptoRow : OpenClaim := { program := "ytdiekiajedmaeaa", sum := "5498550b696096bc459a0b87678d68245b7b1dbb850c2850f24f9ae97648dadf", func := "chapman/chapmanlaw36.CostFew", spec := "costFew", unfollowed := true, recurses := true, apart := false, narrowed := true }
def CostFewUptoSaid : Prop := costFewUptoRow.holds Try.pinned (OpenSpec.upto costFewSpec)

/-- 'chapmanlaw36.CostWrites', WHERE WHAT IT READS IS OF BULK AT MOST 1048576: true; the input reads as it did. -/
def costWritesUptoRow : OpenClaim := { program := "ytdiekiajedmaeaa", sum := "5498550b696096bc459a0b87678d68245b7b1dbb850c2850f24f9ae97648dadf", func := "chapman/chapmanlaw36.CostWrites", spec := "costWrites", unfollowed := true, recurses := true, apart := false, narrowed := true }
def CostWritesUptoSaid : Prop := costWritesUptoRow.holds Try.pinned (OpenSpec.upto costWritesSpec)

/-- 'chapmanlaw36.CostSums', WHERE WHAT IT READS IS OF BULK AT MOST 1048576: true; the input reads as it did. -/
def costSumsUptoRow : OpenClaim := { program := "ytdiekiajedmaeaa", sum := "5498550b696096bc459a0b87678d68245b7b1dbb850c2850f24f9ae97648dadf", func := "chapman/chapmanlaw36.CostSums", spec := "costSums", unfollowed := true, recurses := true, apart := false, narrowed := true }
def CostSumsUptoSaid : Prop := costSumsUptoRow.holds Try.pinned (OpenSpec.upto costSumsSpec)

/-- 'chapmanlaw36.CostWorth', WHERE WHAT IT READS IS OF BULK AT MOST 1048576: true; the input reads as it did. -/
def costWorthUptoRow : OpenClaim := { program := "ytdiekiajedmaeaa", sum := "5498550b696096bc459a0b87678d68245b7b1dbb850c2850f24f9ae97648dadf", func := "chapman/chapmanlaw36.CostWorth", spec := "costWorth", unfollowed := true, recurses := true, apart := false, narrowed := true }
def CostWorthUptoSaid : Prop := costWorthUptoRow.holds Try.pinned (OpenSpec.upto costWorthSpec)

/-- 'chapmanlaw36.CostChoice', WHERE WHAT IT READS IS OF BULK AT MOST 1048576: true; the input reads as it did. -/
def costChoiceUptoRow : OpenClaim := { program := "ytdiekiajedmaeaa", sum := "5498550b696096bc459a0b87678d68245b7b1dbb850c2850f24f9ae97648dadf", func := "chapman/chapmanlaw36.CostChoice", spec := "costChoice", unfollowed := true, recurses := true, apart := false, narrowed := true }
def CostChoiceUptoSaid : Prop := costChoiceUptoRow.holds Try.pinned (OpenSpec.upto costChoiceSpec)

end Rows
end Go.Proofs.Ytdiekiajedmaeaa
