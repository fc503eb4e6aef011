/-
  No cell of these rows narrows 'for every input' (looked for: loops, veiled, ifaces, maps, wideKeys, modest, calm, conditions, laid).
  DERIVED. THE GIVEN ROWS OF THIS SEAT. 6 by the template 'for every input the law returns true; each argument reads behind the call as it read before'; 0 by the template 'total and deterministic' (their statements: YtjfiifcehdjhpaaTotals.lean).
  GIVEN WITH THE SEED: the statements are not yours to turn. If you find one false, say at which input.
  Laid BY PROGRAM, IN A SANDBOX (cutbox-rows.mjs): the forced cells as the released guide's own fill.sh prints them over the translation 2f342dfdbff7d7d4… (all of the seat's roots in one cut). By AI agents, Wed Nov 11 2026. No macro, syntax, notation, axiom, sorry.
-/
import Derived.Test.YtjfiifcehdjhpaaChecked
import GoSem.Claim
import GoSem.ClaimJoined
import GoSem.ClaimMapViews
import Derived.JoinedTies
import Derived.KernelRfl
namespace Go.Proofs.Ytjfiifcehdjhpaa
/- THE CELL 'sum', in the pinned program and in every row, IS THE sha256 OF THE DUMP (.gsa) THAT YtjfiifcehdjhpaaProg.lean LOADS. Nothing in Lean hashes anything: it is a label: what it is worth is what the hold of that sum in a sandbox is worth. -/
noncomputable def Try.pinned : Pinned := { name := "ytjfiifcehdjhpaa", sum := "2f342dfdbff7d7d4f68b03900fdb9cba5dfc45bdf02c3a7b7bdcfa0e62163921", checked := Try.checked }
namespace Rows
def none {H : Type} : Left H := { results := [], args := [] }

/-- 'chapmanlaw40.JoinMatchesReference': WHATEVER THE INPUT: true; the input reads as it did. -/
def joinMatchesReferenceSpec : ChangeSpec := { name := "joinMatchesReference", fn := fun _ => fun
  | [d1, d2, d3] => { results := [.lit (.bool true)], args := [d1, d2, d3] }
  | _ => none }
def joinMatchesReferenceRow : OpenClaim := { program := "ytjfiifcehdjhpaa", sum := "2f342dfdbff7d7d4f68b03900fdb9cba5dfc45bdf02c3a7b7bdcfa0e62163921", func := "chapman/chapmanlaw40.JoinMatchesReference", spec := "joinMatchesReference", unfollowed := true, recurses := true, plainKeys := false, apart := false }
def JoinMatchesReferenceSaid : Prop := joinMatchesReferenceRow.holds Try.pinned (OpenSpec.ofChange joinMatchesReferenceSpec)

/-- ITS FALSE NEIGHBOUR: 'it returns false'. Refute it at one input. -/
def joinMatchesReferenceWrong : ChangeSpec := { name := "joinMatchesReference", fn := fun _ => fun
  | [d1, d2, d3] => { results := [.lit (.bool false)], args := [d1, d2, d3] }
  | _ => none }
def JoinMatchesReferenceWrongFalsely : Prop := joinMatchesReferenceRow.holds Try.pinned (OpenSpec.ofChange joinMatchesReferenceWrong)

/-- 'chapmanlaw40.JoinEquivalent': WHATEVER THE INPUT: true; the input reads as it did. -/
def joinEquivalentSpec : ChangeSpec := { name := "joinEquivalent", fn := fun _ => fun
  | [d] => { results := [.lit (.bool true)], args := [d] }
  | _ => none }
def joinEquivalentRow : OpenClaim := { program := "ytjfiifcehdjhpaa", sum := "2f342dfdbff7d7d4f68b03900fdb9cba5dfc45bdf02c3a7b7bdcfa0e62163921", func := "chapman/chapmanlaw40.JoinEquivalent", spec := "joinEquivalent", unfollowed := true, recurses := true, plainKeys := false, apart := false }
def JoinEquivalentSaid : Prop := joinEquivalentRow.holds Try.pinned (OpenSpec.ofChange joinEquivalentSpec)

/-- ITS FALSE NEIGHBOUR: 'it returns false'. Refute it at one input. -/
def joinEquivalentWrong : ChangeSpec := { name := "joinEquivalent", fn := fun _ => fun
  | [d] => { results := [.lit (.bool false)], args := [d] }
  | _ => none }
def JoinEquivalentWrongFalsely : Prop := joinEquivalentRow.holds Try.pinned (OpenSpec.ofChange joinEquivalentWrong)

/-- 'chapmanlaw40.JoinPartners': WHATEVER THE INPUT: true; the input reads as it did. -/
def joinPartnersSpec : ChangeSpec := { name := "joinPartners", fn := fun _ => fun
  | [d] => { results := [.lit (.bool true)], args := [d] }
  | _ => none }
def joinPartnersRow : OpenClaim := { program := "ytjfiifcehdjhpaa", sum := "2f342dfdbff7d7d4f68b03900fdb9cba5dfc45bdf02c3a7b7bdcfa0e62163921", func := "chapman/chapmanlaw40.JoinPartners", spec := "joinPartners", unfollowed := true, recurses := true, plainKeys := false, apart := false }
def JoinPartnersSaid : Prop := joinPartnersRow.holds Try.pinned (OpenSpec.ofChange joinPartnersSpec)

/-- ITS FALSE NEIGHBOUR: 'it returns false'. Refute it at one input. -/
def joinPartnersWrong : ChangeSpec := { name := "joinPartners", fn := fun _ => fun
  | [d] => { results := [.lit (.bool false)], args := [d] }
  | _ => none }
def JoinPartnersWrongFalsely : Prop := joinPartnersRow.holds Try.pinned (OpenSpec.ofChange joinPartnersWrong)

/-- 'chapmanlaw40.JoinOuter': WHATEVER THE INPUT: true; the input reads as it did. -/
def joinOuterSpec : ChangeSpec := { name := "joinOuter", fn := fun _ => fun
  | [d] => { results := [.lit (.bool true)], args := [d] }
  | _ => none }
def joinOuterRow : OpenClaim := { program := "ytjfiifcehdjhpaa", sum := "2f342dfdbff7d7d4f68b03900fdb9cba5dfc45bdf02c3a7b7bdcfa0e62163921", func := "chapman/chapmanlaw40.JoinOuter", spec := "joinOuter", unfollowed := true, recurses := true, plainKeys := false, apart := false }
def JoinOuterSaid : Prop := joinOuterRow.holds Try.pinned (OpenSpec.ofChange joinOuterSpec)

/-- ITS FALSE NEIGHBOUR: 'it returns false'. Refute it at one input. -/
def joinOuterWrong : ChangeSpec := { name := "joinOuter", fn := fun _ => fun
  | [d] => { results := [.lit (.bool false)], args := [d] }
  | _ => none }
def JoinOuterWrongFalsely : Prop := joinOuterRow.holds Try.pinned (OpenSpec.ofChange joinOuterWrong)

/-- 'chapmanlaw40.JoinParts': WHATEVER THE INPUT: true; the input reads as it did. -/
def joinPartsSpec : ChangeSpec := { name := "joinParts", fn := fun _ => fun
  | [d1, d2] => { results := [.lit (.bool true)], args := [d1, d2] }
  | _ => none }
def joinPartsRow : OpenClaim := { program := "ytjfiifcehdjhpaa", sum := "2f342dfdbff7d7d4f68b03900fdb9cba5dfc45bdf02c3a7b7bdcfa0e62163921", func := "chapman/chapmanlaw40.JoinParts", spec := "joinParts", unfollowed := true, recurses := true, plainKeys := false, apart := false }
def JoinPartsSaid : Prop := joinPartsRow.holds Try.pinned (OpenSpec.ofChange joinPartsSpec)

/-- ITS FALSE NEIGHBOUR: 'it returns false'. Refute it at one input. -/
def joinPartsWrong : ChangeSpec := { name := "joinParts", fn := fun _ => fun
  | [d1, d2] => { results := [.lit (.bool false)], args := [d1, d2] }
  | _ => none }
def JoinPartsWrongFalsely : Prop := joinPartsRow.holds Try.pinned (OpenSpec.ofChange joinPartsWrong)

/-- 'chapmanlaw40.JoinExchanges': WHATEVER THE INPUT: true; the input reads as it did. -/
def joinExchangesSpec : ChangeSpec := { name := "joinExchanges", fn := fun _ => fun
  | [d] => { results := [.lit (.bool true)], args := [d] }
  | _ => none }
def joinExchangesRow : OpenClaim := { program := "ytjfiifcehdjhpaa", sum := "2f342dfdbff7d7d4f68b03900fdb9cba5dfc45bdf02c3a7b7bdcfa0e62163921", func := "chapman/chapmanlaw40.JoinExchanges", spec := "joinExchanges", unfollowed := true, recurses := true, plainKeys := false, apart := false }
def JoinExchangesSaid : Prop := joinExchangesRow.holds Try.pinned (OpenSpec.ofChange joinExchangesSpec)

/-- ITS FALSE NEIGHBOUR: 'it returns false'. Refute it at one input. -/
def joinExchangesWrong : ChangeSpec := { name := "joinExchanges", fn := fun _ => fun
  | [d] => { results := [.lit (.bool false)], args := [d] }
  | _ => none }
def JoinExchangesWrongFalsely : Prop := joinExchangesRow.holds Try.pinned (OpenSpec.ofChange joinExchangesWrong)

/- THE SECOND FORM. 'bulk': how many values and letters a reading holds, each counted each time it is reached (what is shared counts as often as it is met; a slice's spare places count too). A statement '..UptoSaid' is the law's where the arguments, and the package variables that the reading takes, are together of bulk at most 1048576: NARROWER than '..Said'. Prove '..Said' where nothing that the law and all that it calls make is longer than what came in: it says more and counts as full. Else prove '..UptoSaid'. A law counts once. -/
mutual
def uptoBulk {H : Type} : DataW H → Nat
  | .lit (.string bytes) => bytes.length + 1
  | .lit _ => 1
  | .nil => 1
  | .ptr d => uptoBulk d + 1
  | .slice elems spare => uptoBulkAll elems + uptoBulkAll spare + 1
  | .agg parts => uptoBulkAll parts + 1
  | .iface _ d => uptoBulk d + 1
  | .map entries => uptoBulkEntries entries + 1
  | .held _ => 1
def uptoBulkAll {H : Type} : List (DataW H) → Nat
  | [] => 0
  | d :: r => uptoBulk d + uptoBulkAll r
def uptoBulkEntries {H : Type} : List (Lit × DataW H) → Nat
  | [] => 0
  | x :: r => uptoBulkEntry x + uptoBulkEntries r
def uptoBulkEntry {H : Type} : Lit × DataW H → Nat
  | (.string bytes, d) => bytes.length + uptoBulk d + 1
  | (_, d) => uptoBulk d + 1
 end
def uptoSmall : (H : Type) → List (DataW H) → Bool := fun _ ds => decide (uptoBulkAll ds ≤ 1048576)
def OpenSpec.upto (s : _root_.Go.ChangeSpec) : _root_.Go.OpenSpec := { _root_.Go.OpenSpec.ofChange s with cond := some uptoSmall }

/-- 'chapmanlaw40.JoinMatchesReference', WHERE WHAT IT READS IS OF BULK AT MOST 1048576: true; the input reads as it did. -/
def joinMatchesReferenceUptoRow : OpenClaim := { program := "ytjfiifcehdjhpaa", sum := "2f342dfdbff7d7d4f68b03900fdb9cba5dfc45bdf02c3a7b7bdcfa0e62163921", func := "chapman/chapmanlaw40.JoinMatchesReference", spec := "joinMatchesReference", unfollowed := true, recurses := true, plainKeys := false, apart := false, narrowed := true }
def JoinMatchesReferenceUptoSaid : Prop := joinMatchesReferenceUptoRow.holds Try.pinned (OpenSpec.upto joinMatchesReferenceSpec)

/-- 'chapmanlaw40.JoinEquivalent', WHERE WHAT IT READS IS OF BULK AT MOST 1048576: true; the input reads as it did. -/
def joinEquivalentUptoRow : OpenClaim := { program := "ytjfiifcehdjhpaa", sum := "2f342dfdbff7d7d4f68b03900fdb9cba5dfc45bdf02c3a7b7bdcfa0e62163921", func := "chapman/chapmanlaw40.JoinEquivalent", spec := "joinEquivalent", unfollowed := true, recurses := true, plainKeys := false, apart := false, narrowed := true }
def JoinEquivalentUptoSaid : Prop := joinEquivalentUptoRow.holds Try.pinned (OpenSpec.upto joinEquivalentSpec)

/-- 'chapmanlaw40.JoinPartners', WHERE WHAT IT READS IS OF BULK AT MOST 1048576: true; the input reads as it did. -/
def joinPartnersUptoRow : OpenClaim := { program := "ytjfiifcehdjhpaa", sum := "2f342dfdbff7d7d4f68b03900fdb9cba5dfc45bdf02c3a7b7bdcfa0e62163921", func := "chapman/chapmanlaw40.JoinPartners", spec := "joinPartners", unfollowed := true, recurses := true, plainKeys := false, apart := false, narrowed := true }
def JoinPartnersUptoSaid : Prop := joinPartnersUptoRow.holds Try.pinned (OpenSpec.upto joinPartnersSpec)

/-- 'chapmanlaw40.JoinOuter', WHERE WHAT IT READS IS OF BULK AT MOST 1048576: true; the input reads as it did. -/
def joinOuterUptoRow : OpenClaim := { program := "ytjfiifcehdjhpaa", sum := "2f342dfdbff7d7d4f68b03900fdb9cba5dfc45bdf02c3a7b7bdcfa0e62163921", func := "chapman/chapmanlaw40.JoinOuter", spec := "joinOuter", unfollowed := true, recurses := true, plainKeys := false, apart := false, narrowed := true }
def JoinOuterUptoSaid : Prop := joinOuterUptoRow.holds Try.pinned (OpenSpec.upto joinOuterSpec)

/-- 'chapmanlaw40.JoinParts', WHERE WHAT IT READS IS OF BULK AT MOST 1048576: true; the input reads as it did. -/
def joinPartsUptoRow : OpenClaim := { program := "ytjfiifcehdjhpaa", sum := "2f342dfdbff7d7d4f68b03900fdb9cba5dfc45bdf02c3a7b7bdcfa0e62163921", func := "chapman/chapmanlaw40.JoinParts", spec := "joinParts", unfollowed := true, recurses := true, plainKeys := false, apart := false, narrowed := true }
def JoinPartsUptoSaid : Prop := joinPartsUptoRow.holds Try.pinned (OpenSpec.upto joinPartsSpec)

/-- 'chapmanlaw40.JoinExchanges', WHERE WHAT IT READS IS OF BULK AT MOST 1048576: true; the input reads as it did. -/
def joinExchangesUptoRow : OpenClaim := { program := "ytjfiifcehdjhpaa", sum := "2f342dfdbff7d7d4f68b03900fdb9cba5dfc45bdf02c3a7b7bdcfa0e62163921", func := "chapman/chapmanlaw40.JoinExchanges", spec := "joinExchanges", unfollowed := true, recurses := true, plainKeys := false, apart := false, narrowed := true }
def JoinExchangesUptoSaid : Prop := joinExchangesUptoRow.holds Try.pinned (OpenSpec.upto joinExchangesSpec)

end Rows
end Go.Proofs.Ytjfiifcehdjhpaa
