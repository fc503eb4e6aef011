/-
  DERIVED. GIVEN WITH THE SEED: THE CARDS: each row of YtmdkgkhddjhdoaaDoorRows.lean that lists a variable, with what it lists TIED to the program's text (the seventh form; the later family's looks); each row that meets fmt, with fmt's text TOLD by the authors' own Lean function (tested against real Go, not proved from fmt's source: count such statements apart). THE CARD IS WHAT COUNTS. Prove the row's statement (the work); the ties are given (YtmdkgkhddjhdoaaDoorTie.lean); close each card by the builder's one call (the guide's Derived/Test/ToyasCard.lean, 'card_holds'). Laid BY PROGRAM, IN A SANDBOX (cutbox-door.mjs). By AI agents, Wed Nov 11 2026. No macro, syntax, notation, axiom, sorry.
-/
import Derived.Test.YtmdkgkhddjhdoaaDoorRows
import GoSem.ClaimSeven
namespace Go.Proofs.YtmdkgkhddjhdoaaDoor
namespace Rows

/-- THE TIED CARD OF 'chapmanlaw23.EscrowMatchesReference'. -/
def escrowMatchesReferenceCard : Claim7 := { stood := { row := escrowMatchesReferenceRow, standIns := [], harness := (true, "1baf8171fc846b09c72660c454958eb434ba051940df924482f90bcf842d276d"), looks := false }, kinds := [], alts := [], laidByText := true, laidKinds := [.funcs], laidTests := true, laidLooks := .later }
def EscrowMatchesReferenceCardSaid : Prop := Claim7.holds Tryd.pinned (.plain (OpenSpec.ofChange escrowMatchesReferenceSpec)) escrowMatchesReferenceCard

/-- THE TIED CARD OF 'chapmanlaw23.EscrowConserves'. -/
def escrowConservesCard : Claim7 := { stood := { row := escrowConservesRow, standIns := [], harness := (true, "1baf8171fc846b09c72660c454958eb434ba051940df924482f90bcf842d276d"), looks := false }, kinds := [], alts := [], laidByText := true, laidKinds := [.funcs], laidTests := true, laidLooks := .later }
def EscrowConservesCardSaid : Prop := Claim7.holds Tryd.pinned (.plain (OpenSpec.ofChange escrowConservesSpec)) escrowConservesCard

/-- THE TIED CARD OF 'chapmanlaw23.EscrowIndependence'. -/
def escrowIndependenceCard : Claim7 := { stood := { row := escrowIndependenceRow, standIns := [], harness := (true, "1baf8171fc846b09c72660c454958eb434ba051940df924482f90bcf842d276d"), looks := false }, kinds := [], alts := [], laidByText := true, laidKinds := [.funcs], laidTests := true, laidLooks := .later }
def EscrowIndependenceCardSaid : Prop := Claim7.holds Tryd.pinned (.plain (OpenSpec.ofChange escrowIndependenceSpec)) escrowIndependenceCard

/-- THE TIED CARD OF 'chapmanlaw23.EscrowMonotone'. -/
def escrowMonotoneCard : Claim7 := { stood := { row := escrowMonotoneRow, standIns := [], harness := (true, "1baf8171fc846b09c72660c454958eb434ba051940df924482f90bcf842d276d"), looks := false }, kinds := [], alts := [], laidByText := true, laidKinds := [.funcs], laidTests := true, laidLooks := .later }
def EscrowMonotoneCardSaid : Prop := Claim7.holds Tryd.pinned (.plain (OpenSpec.ofChange escrowMonotoneSpec)) escrowMonotoneCard

/-- THE TIED CARD OF 'chapmanlaw23.EscrowAtomic'. -/
def escrowAtomicCard : Claim7 := { stood := { row := escrowAtomicRow, standIns := [], harness := (true, "1baf8171fc846b09c72660c454958eb434ba051940df924482f90bcf842d276d"), looks := false }, kinds := [], alts := [], laidByText := true, laidKinds := [.funcs], laidTests := true, laidLooks := .later }
def EscrowAtomicCardSaid : Prop := Claim7.holds Tryd.pinned (.plain (OpenSpec.ofChange escrowAtomicSpec)) escrowAtomicCard

/-- THE TIED CARD OF 'chapmanlaw23.EscrowPromises'. -/
def escrowPromisesCard : Claim7 := { stood := { row := escrowPromisesRow, standIns := [], harness := (true, "1baf8171fc846b09c72660c454958eb434ba051940df924482f90bcf842d276d"), looks := false }, kinds := [], alts := [], laidByText := true, laidKinds := [.funcs], laidTests := true, laidLooks := .later }
def EscrowPromisesCardSaid : Prop := Claim7.holds Tryd.pinned (.plain (OpenSpec.ofChange escrowPromisesSpec)) escrowPromisesCard

/-- THE SECOND FORM's CARD OF 'chapmanlaw23.EscrowMatchesReference'. -/
def escrowMatchesReferenceUptoCard : Claim7 := { stood := { row := escrowMatchesReferenceUptoRow, standIns := [], harness := (true, "1baf8171fc846b09c72660c454958eb434ba051940df924482f90bcf842d276d"), looks := false }, kinds := [], alts := [], laidByText := true, laidKinds := [.funcs], laidTests := true, laidLooks := .later }
def EscrowMatchesReferenceUptoCardSaid : Prop := Claim7.holds Tryd.pinned (.plain (OpenSpec.upto escrowMatchesReferenceSpec)) escrowMatchesReferenceUptoCard

/-- THE SECOND FORM's CARD OF 'chapmanlaw23.EscrowConserves'. -/
def escrowConservesUptoCard : Claim7 := { stood := { row := escrowConservesUptoRow, standIns := [], harness := (true, "1baf8171fc846b09c72660c454958eb434ba051940df924482f90bcf842d276d"), looks := false }, kinds := [], alts := [], laidByText := true, laidKinds := [.funcs], laidTests := true, laidLooks := .later }
def EscrowConservesUptoCardSaid : Prop := Claim7.holds Tryd.pinned (.plain (OpenSpec.upto escrowConservesSpec)) escrowConservesUptoCard

/-- THE SECOND FORM's CARD OF 'chapmanlaw23.EscrowIndependence'. -/
def escrowIndependenceUptoCard : Claim7 := { stood := { row := escrowIndependenceUptoRow, standIns := [], harness := (true, "1baf8171fc846b09c72660c454958eb434ba051940df924482f90bcf842d276d"), looks := false }, kinds := [], alts := [], laidByText := true, laidKinds := [.funcs], laidTests := true, laidLooks := .later }
def EscrowIndependenceUptoCardSaid : Prop := Claim7.holds Tryd.pinned (.plain (OpenSpec.upto escrowIndependenceSpec)) escrowIndependenceUptoCard

/-- THE SECOND FORM's CARD OF 'chapmanlaw23.EscrowMonotone'. -/
def escrowMonotoneUptoCard : Claim7 := { stood := { row := escrowMonotoneUptoRow, standIns := [], harness := (true, "1baf8171fc846b09c72660c454958eb434ba051940df924482f90bcf842d276d"), looks := false }, kinds := [], alts := [], laidByText := true, laidKinds := [.funcs], laidTests := true, laidLooks := .later }
def EscrowMonotoneUptoCardSaid : Prop := Claim7.holds Tryd.pinned (.plain (OpenSpec.upto escrowMonotoneSpec)) escrowMonotoneUptoCard

/-- THE SECOND FORM's CARD OF 'chapmanlaw23.EscrowAtomic'. -/
def escrowAtomicUptoCard : Claim7 := { stood := { row := escrowAtomicUptoRow, standIns := [], harness := (true, "1baf8171fc846b09c72660c454958eb434ba051940df924482f90bcf842d276d"), looks := false }, kinds := [], alts := [], laidByText := true, laidKinds := [.funcs], laidTests := true, laidLooks := .later }
def EscrowAtomicUptoCardSaid : Prop := Claim7.holds Tryd.pinned (.plain (OpenSpec.upto escrowAtomicSpec)) escrowAtomicUptoCard

/-- THE SECOND FORM's CARD OF 'chapmanlaw23.EscrowPromises'. -/
def escrowPromisesUptoCard : Claim7 := { stood := { row := escrowPromisesUptoRow, standIns := [], harness := (true, "1baf8171fc846b09c72660c454958eb434ba051940df924482f90bcf842d276d"), looks := false }, kinds := [], alts := [], laidByText := true, laidKinds := [.funcs], laidTests := true, laidLooks := .later }
def EscrowPromisesUptoCardSaid : Prop := Claim7.holds Tryd.pinned (.plain (OpenSpec.upto escrowPromisesSpec)) escrowPromisesUptoCard
end Rows
end Go.Proofs.YtmdkgkhddjhdoaaDoor
