/-
  No cell of these rows narrows 'for every input' (looked for: loops, veiled, ifaces, maps, wideKeys, modest, calm, conditions, laid).
  DERIVED. THE GIVEN ROWS OF THIS SEAT. 6 by the template 'for every input the law returns true; each argument reads behind the call as it read before'; 0 by the template 'total and deterministic' (their statements: YtpclhokdlhcjkaaTotals.lean).
  GIVEN WITH THE SEED: the statements are not yours to turn. If you find one false, say at which input.
  Laid BY PROGRAM, IN A SANDBOX (cutbox-rows.mjs): the forced cells as the released guide's own fill.sh prints them over the translation 465b1a98f72c709e… (all of the seat's roots in one cut). By AI agents, Wed Nov 11 2026. No macro, syntax, notation, axiom, sorry.
-/
import Derived.Test.YtpclhokdlhcjkaaChecked
import GoSem.Claim
import GoSem.ClaimJoined
import GoSem.ClaimMapViews
import Derived.JoinedTies
import Derived.KernelRfl
namespace Go.Proofs.Ytpclhokdlhcjkaa
/- THE CELL 'sum', in the pinned program and in every row, IS THE sha256 OF THE DUMP (.gsa) THAT YtpclhokdlhcjkaaProg.lean LOADS. Nothing in Lean hashes anything: it is a label: what it is worth is what the hold of that sum in a sandbox is worth. -/
noncomputable def Try.pinned : Pinned := { name := "ytpclhokdlhcjkaa", sum := "465b1a98f72c709e548a8b2b48dd15b9d549e856a44a5cc3c903160f3ed80cfe", checked := Try.checked }
namespace Rows
def none {H : Type} : Left H := { results := [], args := [] }

/-- 'chapmanlaw42.WindowMatchesReference': WHATEVER THE INPUT: true; the input reads as it did. -/
def windowMatchesReferenceSpec : ChangeSpec := { name := "windowMatchesReference", fn := fun _ => fun
  | [d1, d2, d3] => { results := [.lit (.bool true)], args := [d1, d2, d3] }
  | _ => none }
def windowMatchesReferenceRow : OpenClaim := { program := "ytpclhokdlhcjkaa", sum := "465b1a98f72c709e548a8b2b48dd15b9d549e856a44a5cc3c903160f3ed80cfe", func := "chapman/chapmanlaw42.WindowMatchesReference", spec := "windowMatchesReference", unfollowed := true, recurses := true, apart := false }
def WindowMatchesReferenceSaid : Prop := windowMatchesReferenceRow.holds Try.pinned (OpenSpec.ofChange windowMatchesReferenceSpec)

/-- ITS FALSE NEIGHBOUR: 'it returns false'. Refute it at one input. -/
def windowMatchesReferenceWrong : ChangeSpec := { name := "windowMatchesReference", fn := fun _ => fun
  | [d1, d2, d3] => { results := [.lit (.bool false)], args := [d1, d2, d3] }
  | _ => none }
def WindowMatchesReferenceWrongFalsely : Prop := windowMatchesReferenceRow.holds Try.pinned (OpenSpec.ofChange windowMatchesReferenceWrong)

/-- 'chapmanlaw42.WindowPartitions': WHATEVER THE INPUT: true; the input reads as it did. -/
def windowPartitionsSpec : ChangeSpec := { name := "windowPartitions", fn := fun _ => fun
  | [d1, d2, d3] => { results := [.lit (.bool true)], args := [d1, d2, d3] }
  | _ => none }
def windowPartitionsRow : OpenClaim := { program := "ytpclhokdlhcjkaa", sum := "465b1a98f72c709e548a8b2b48dd15b9d549e856a44a5cc3c903160f3ed80cfe", func := "chapman/chapmanlaw42.WindowPartitions", spec := "windowPartitions", unfollowed := true, recurses := true, apart := false }
def WindowPartitionsSaid : Prop := windowPartitionsRow.holds Try.pinned (OpenSpec.ofChange windowPartitionsSpec)

/-- ITS FALSE NEIGHBOUR: 'it returns false'. Refute it at one input. -/
def windowPartitionsWrong : ChangeSpec := { name := "windowPartitions", fn := fun _ => fun
  | [d1, d2, d3] => { results := [.lit (.bool false)], args := [d1, d2, d3] }
  | _ => none }
def WindowPartitionsWrongFalsely : Prop := windowPartitionsRow.holds Try.pinned (OpenSpec.ofChange windowPartitionsWrong)

/-- 'chapmanlaw42.WindowNumbers': WHATEVER THE INPUT: true; the input reads as it did. -/
def windowNumbersSpec : ChangeSpec := { name := "windowNumbers", fn := fun _ => fun
  | [d1, d2] => { results := [.lit (.bool true)], args := [d1, d2] }
  | _ => none }
def windowNumbersRow : OpenClaim := { program := "ytpclhokdlhcjkaa", sum := "465b1a98f72c709e548a8b2b48dd15b9d549e856a44a5cc3c903160f3ed80cfe", func := "chapman/chapmanlaw42.WindowNumbers", spec := "windowNumbers", unfollowed := true, recurses := true, apart := false }
def WindowNumbersSaid : Prop := windowNumbersRow.holds Try.pinned (OpenSpec.ofChange windowNumbersSpec)

/-- ITS FALSE NEIGHBOUR: 'it returns false'. Refute it at one input. -/
def windowNumbersWrong : ChangeSpec := { name := "windowNumbers", fn := fun _ => fun
  | [d1, d2] => { results := [.lit (.bool false)], args := [d1, d2] }
  | _ => none }
def WindowNumbersWrongFalsely : Prop := windowNumbersRow.holds Try.pinned (OpenSpec.ofChange windowNumbersWrong)

/-- 'chapmanlaw42.WindowSums': WHATEVER THE INPUT: true; the input reads as it did. -/
def windowSumsSpec : ChangeSpec := { name := "windowSums", fn := fun _ => fun
  | [d1, d2] => { results := [.lit (.bool true)], args := [d1, d2] }
  | _ => none }
def windowSumsRow : OpenClaim := { program := "ytpclhokdlhcjkaa", sum := "465b1a98f72c709e548a8b2b48dd15b9d549e856a44a5cc3c903160f3ed80cfe", func := "chapman/chapmanlaw42.WindowSums", spec := "windowSums", unfollowed := true, recurses := true, apart := false }
def WindowSumsSaid : Prop := windowSumsRow.holds Try.pinned (OpenSpec.ofChange windowSumsSpec)

/-- ITS FALSE NEIGHBOUR: 'it returns false'. Refute it at one input. -/
def windowSumsWrong : ChangeSpec := { name := "windowSums", fn := fun _ => fun
  | [d1, d2] => { results := [.lit (.bool false)], args := [d1, d2] }
  | _ => none }
def WindowSumsWrongFalsely : Prop := windowSumsRow.holds Try.pinned (OpenSpec.ofChange windowSumsWrong)

/-- 'chapmanlaw42.WindowOrder': WHATEVER THE INPUT: true; the input reads as it did. -/
def windowOrderSpec : ChangeSpec := { name := "windowOrder", fn := fun _ => fun
  | [d1, d2, d3] => { results := [.lit (.bool true)], args := [d1, d2, d3] }
  | _ => none }
def windowOrderRow : OpenClaim := { program := "ytpclhokdlhcjkaa", sum := "465b1a98f72c709e548a8b2b48dd15b9d549e856a44a5cc3c903160f3ed80cfe", func := "chapman/chapmanlaw42.WindowOrder", spec := "windowOrder", unfollowed := true, recurses := true, apart := false }
def WindowOrderSaid : Prop := windowOrderRow.holds Try.pinned (OpenSpec.ofChange windowOrderSpec)

/-- ITS FALSE NEIGHBOUR: 'it returns false'. Refute it at one input. -/
def windowOrderWrong : ChangeSpec := { name := "windowOrder", fn := fun _ => fun
  | [d1, d2, d3] => { results := [.lit (.bool false)], args := [d1, d2, d3] }
  | _ => none }
def WindowOrderWrongFalsely : Prop := windowOrderRow.holds Try.pinned (OpenSpec.ofChange windowOrderWrong)

/-- 'chapmanlaw42.WindowLags': WHATEVER THE INPUT: true; the input reads as it did. -/
def windowLagsSpec : ChangeSpec := { name := "windowLags", fn := fun _ => fun
  | [d1, d2] => { results := [.lit (.bool true)], args := [d1, d2] }
  | _ => none }
def windowLagsRow : OpenClaim := { program := "ytpclhokdlhcjkaa", sum := "465b1a98f72c709e548a8b2b48dd15b9d549e856a44a5cc3c903160f3ed80cfe", func := "chapman/chapmanlaw42.WindowLags", spec := "windowLags", unfollowed := true, recurses := true, apart := false }
def WindowLagsSaid : Prop := windowLagsRow.holds Try.pinned (OpenSpec.ofChange windowLagsSpec)

/-- ITS FALSE NEIGHBOUR: 'it returns false'. Refute it at one input. -/
def windowLagsWrong : ChangeSpec := { name := "windowLags", fn := fun _ => fun
  | [d1, d2] => { results := [.lit (.bool false)], args := [d1, d2] }
  | _ => none }
def WindowLagsWrongFalsely : Prop := windowLagsRow.holds Try.pinned (OpenSpec.ofChange windowLagsWrong)

/- THE SECOND FORM. 'bulk': how many values and letters a reading holds, each counted each time it is reached (what is shared counts as often as it is met; a slice's spare places count too). A statement '..UptoSaid' is the law's where the arguments, and the package variables that the reading takes, are together of bulk at most 1048576: NARROWER than '..Said'. Prove '..Said' where nothing that the law and all that it calls make is longer than what came in: it says more and counts as full. Else prove '..UptoSaid'. A law counts once. -/
mutual
def uptoBulk {H : Type} : DataW H → Nat
  | .lit (.string bytes) => bytes.length + 1
  | .lit _ => 1
  | .nil => 1
  | .ptr d => uptoBulk d + 1
  | .slice elems spare => uptoBulkAll elems + uptoBulkAll spare + 1
  | .agg parts => uptoBulkAll parts + 1
  | .iface _ d => uptoBulk d + 1
  | .map entries => uptoBulkEntries entries + 1
  | .held _ => 1
def uptoBulkAll {H : Type} : List (DataW H) → Nat
  | [] => 0
  | d :: r => uptoBulk d + uptoBulkAll r
def uptoBulkEntries {H : Type} : List (Lit × DataW H) → Nat
  | [] => 0
  | x :: r => uptoBulkEntry x + uptoBulkEntries r
def uptoBulkEntry {H : Type} : Lit × DataW H → Nat
  | (.string bytes, d) => bytes.length + uptoBulk d + 1
  | (_, d) => uptoBulk d + 1
 end
def uptoSmall : (H : Type) → List (DataW H) → Bool := fun _ ds => decide (uptoBulkAll ds ≤ 1048576)
def OpenSpec.upto (s : _root_.Go.ChangeSpec) : _root_.Go.OpenSpec := { _root_.Go.OpenSpec.ofChange s with cond := some uptoSmall }

/-- 'chapmanlaw42.WindowMatchesReference', WHERE WHAT IT READS IS OF BULK AT MOST 1048576: true; the input reads as it did. -/
def windowMatchesReferenceUptoRow : OpenClaim := { program := "ytpclhokdlhcjkaa", sum := "465b1a98f72c709e548a8b2b48dd15b9d549e856a44a5cc3c903160f3ed80cfe", func := "chapman/chapmanlaw42.WindowMatchesReference", spec := "windowMatchesReference", unfollowed := true, recurses := true, apart := false, narrowed := true }
def WindowMatchesReferenceUptoSaid : Prop := windowMatchesReferenceUptoRow.holds Try.pinned (OpenSpec.upto windowMatchesReferenceSpec)

/-- 'chapmanlaw42.WindowPartitions', WHERE WHAT IT READS IS OF BULK AT MOST 1048576: true; the input reads as it did. -/
def windowPartitionsUptoRow : OpenClaim := { program := "ytpclhokdlhcjkaa", sum := "465b1a98f72c709e548a8b2b48dd15b9d549e856a44a5cc3c903160f3ed80cfe", func := "chapman/chapmanlaw42.WindowPartitions", spec := "windowPartitions", unfollowed := true, recurses := true, apart := false, narrowed := true }
def WindowPartitionsUptoSaid : Prop := windowPartitionsUptoRow.holds Try.pinned (OpenSpec.upto windowPartitionsSpec)

/-- 'chapmanlaw42.WindowNumbers', WHERE WHAT IT READS IS OF BULK AT MOST 1048576: true; the input reads as it did. -/
def windowNumbersUptoRow : OpenClaim := { program := "ytpclhokdlhcjkaa", sum := "465b1a98f72c709e548a8b2b48dd15b9d549e856a44a5cc3c903160f3ed80cfe", func := "chapman/chapmanlaw42.WindowNumbers", spec := "windowNumbers", unfollowed := true, recurses := true, apart := false, narrowed := true }
def WindowNumbersUptoSaid : Prop := windowNumbersUptoRow.holds Try.pinned (OpenSpec.upto windowNumbersSpec)

/-- 'chapmanlaw42.WindowSums', WHERE WHAT IT READS IS OF BULK AT MOST 1048576: true; the input reads as it did. -/
def windowSumsUptoRow : OpenClaim := { program := "ytpclhokdlhcjkaa", sum := "465b1a98f72c709e548a8b2b48dd15b9d549e856a44a5cc3c903160f3ed80cfe", func := "chapman/chapmanlaw42.WindowSums", spec := "windowSums", unfollowed := true, recurses := true, apart := false, narrowed := true }
def WindowSumsUptoSaid : Prop := windowSumsUptoRow.holds Try.pinned (OpenSpec.upto windowSumsSpec)

/-- 'chapmanlaw42.WindowOrder', WHERE WHAT IT READS IS OF BULK AT MOST 1048576: true; the input reads as it did. -/
def windowOrderUptoRow : OpenClaim := { program := "ytpclhokdlhcjkaa", sum := "465b1a98f72c709e548a8b2b48dd15b9d549e856a44a5cc3c903160f3ed80cfe", func := "chapman/chapmanlaw42.WindowOrder", spec := "windowOrder", unfollowed := true, recurses := true, apart := false, narrowed := true }
def WindowOrderUptoSaid : Prop := windowOrderUptoRow.holds Try.pinned (OpenSpec.upto windowOrderSpec)

/-- 'chapmanlaw42.WindowLags', WHERE WHAT IT READS IS OF BULK AT MOST 1048576: true; the input reads as it did. -/
def windowLagsUptoRow : OpenClaim := { program := "ytpclhokdlhcjkaa", sum := "465b1a98f72c709e548a8b2b48dd15b9d549e856a44a5cc3c903160f3ed80cfe", func := "chapman/chapmanlaw42.WindowLags", spec := "windowLags", unfollowed := true, recurses := true, apart := false, narrowed := true }
def WindowLagsUptoSaid : Prop := windowLagsUptoRow.holds Try.pinned (OpenSpec.upto windowLagsSpec)

end Rows
end Go.Proofs.Ytpclhokdlhcjkaa
