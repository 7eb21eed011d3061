/-
  DERIVED. GIVEN WITH THE SEED: THE CARDS: each row of YtplkmbfeeegaiaaDoorRows.lean that lists a variable, with what it lists TIED to the program's text (the seventh form; the later family's looks); each row that meets fmt, with fmt's text TOLD by the authors' own Lean function (tested against real Go, not proved from fmt's source: count such statements apart). THE CARD IS WHAT COUNTS. Prove the row's statement (the work); the ties are given (YtplkmbfeeegaiaaDoorTie.lean); close each card by the builder's one call (the guide's Derived/Test/ToyasCard.lean, 'card_holds'). Laid BY PROGRAM, IN A SANDBOX (cutbox-door.mjs). By AI agents, Wed Nov 11 2026. No macro, syntax, notation, axiom, sorry.
-/
import Derived.Test.YtplkmbfeeegaiaaDoorRows
import GoSem.ClaimSeven
namespace Go.Proofs.YtplkmbfeeegaiaaDoor
namespace Rows

/-- THE TIED CARD OF 'cachetierlaw12.RingMatchesReference'. -/
def ringMatchesReferenceCard : Claim7 := { stood := { row := ringMatchesReferenceRow, standIns := [], harness := (true, "d4932a716e7d01e3c01c564e4b374e942a8265e859744c74fa3417b00cce6217"), looks := false }, kinds := [], alts := [], laidByText := true, laidKinds := [.data, .data, .data, .data], laidTests := true, laidLooks := .later }
def RingMatchesReferenceCardSaid : Prop := Claim7.holds Tryd.pinned (.plain (OpenSpec.ofChange ringMatchesReferenceSpec)) ringMatchesReferenceCard

/-- THE TIED CARD OF 'cachetierlaw12.RingFunctionsMatchReference'. -/
def ringFunctionsMatchReferenceCard : Claim7 := { stood := { row := ringFunctionsMatchReferenceRow, standIns := [], harness := (true, "d4932a716e7d01e3c01c564e4b374e942a8265e859744c74fa3417b00cce6217"), looks := false }, kinds := [], alts := [], laidByText := true, laidKinds := [.data, .data, .data, .data], laidTests := true, laidLooks := .later }
def RingFunctionsMatchReferenceCardSaid : Prop := Claim7.holds Tryd.pinned (.plain (OpenSpec.ofChange ringFunctionsMatchReferenceSpec)) ringFunctionsMatchReferenceCard

/-- THE TIED CARD OF 'cachetierlaw12.RingBounded'. -/
def ringBoundedCard : Claim7 := { stood := { row := ringBoundedRow, standIns := [], harness := (true, "d4932a716e7d01e3c01c564e4b374e942a8265e859744c74fa3417b00cce6217"), looks := false }, kinds := [], alts := [], laidByText := true, laidKinds := [.data, .data, .data, .data], laidTests := true, laidLooks := .later }
def RingBoundedCardSaid : Prop := Claim7.holds Tryd.pinned (.plain (OpenSpec.ofChange ringBoundedSpec)) ringBoundedCard

/-- THE TIED CARD OF 'cachetierlaw12.RingConsistent'. -/
def ringConsistentCard : Claim7 := { stood := { row := ringConsistentRow, standIns := [], harness := (true, "d4932a716e7d01e3c01c564e4b374e942a8265e859744c74fa3417b00cce6217"), looks := false }, kinds := [], alts := [], laidByText := true, laidKinds := [.data, .data, .data, .data], laidTests := true, laidLooks := .later }
def RingConsistentCardSaid : Prop := Claim7.holds Tryd.pinned (.plain (OpenSpec.ofChange ringConsistentSpec)) ringConsistentCard

/-- THE TIED CARD OF 'cachetierlaw12.RingClockwise'. -/
def ringClockwiseCard : Claim7 := { stood := { row := ringClockwiseRow, standIns := [], harness := (true, "d4932a716e7d01e3c01c564e4b374e942a8265e859744c74fa3417b00cce6217"), looks := false }, kinds := [], alts := [], laidByText := true, laidKinds := [.data, .data, .data, .data], laidTests := true, laidLooks := .later }
def RingClockwiseCardSaid : Prop := Claim7.holds Tryd.pinned (.plain (OpenSpec.ofChange ringClockwiseSpec)) ringClockwiseCard

/-- THE TIED CARD OF 'cachetierlaw12.RingRegions'. -/
def ringRegionsCard : Claim7 := { stood := { row := ringRegionsRow, standIns := [], harness := (true, "d4932a716e7d01e3c01c564e4b374e942a8265e859744c74fa3417b00cce6217"), looks := false }, kinds := [], alts := [], laidByText := true, laidKinds := [.data, .data, .data, .data], laidTests := true, laidLooks := .later }
def RingRegionsCardSaid : Prop := Claim7.holds Tryd.pinned (.plain (OpenSpec.ofChange ringRegionsSpec)) ringRegionsCard

/-- THE TIED CARD OF 'cachetierlaw12.RingOwners'. -/
def ringOwnersCard : Claim7 := { stood := { row := ringOwnersRow, standIns := [], harness := (true, "d4932a716e7d01e3c01c564e4b374e942a8265e859744c74fa3417b00cce6217"), looks := false }, kinds := [], alts := [], laidByText := true, laidKinds := [.data, .data, .data, .data], laidTests := true, laidLooks := .later }
def RingOwnersCardSaid : Prop := Claim7.holds Tryd.pinned (.plain (OpenSpec.ofChange ringOwnersSpec)) ringOwnersCard

/-- THE TIED CARD OF 'cachetierlaw13.ReshardFew'. -/
def reshardFewCard : Claim7 := { stood := { row := reshardFewRow, standIns := [], harness := (true, "d4932a716e7d01e3c01c564e4b374e942a8265e859744c74fa3417b00cce6217"), looks := false }, kinds := [], alts := [], laidByText := true, laidKinds := [.data, .data, .data, .data], laidTests := true, laidLooks := .later }
def ReshardFewCardSaid : Prop := Claim7.holds Tryd.pinned (.plain (OpenSpec.ofChange reshardFewSpec)) reshardFewCard

/-- THE TIED CARD OF 'cachetierlaw13.ReshardMoves'. -/
def reshardMovesCard : Claim7 := { stood := { row := reshardMovesRow, standIns := [], harness := (true, "d4932a716e7d01e3c01c564e4b374e942a8265e859744c74fa3417b00cce6217"), looks := false }, kinds := [], alts := [], laidByText := true, laidKinds := [.data, .data, .data, .data], laidTests := true, laidLooks := .later }
def ReshardMovesCardSaid : Prop := Claim7.holds Tryd.pinned (.plain (OpenSpec.ofChange reshardMovesSpec)) reshardMovesCard

/-- THE TIED CARD OF 'cachetierlaw13.ReshardKeys'. -/
def reshardKeysCard : Claim7 := { stood := { row := reshardKeysRow, standIns := [], harness := (true, "d4932a716e7d01e3c01c564e4b374e942a8265e859744c74fa3417b00cce6217"), looks := false }, kinds := [], alts := [], laidByText := true, laidKinds := [.data, .data, .data, .data], laidTests := true, laidLooks := .later }
def ReshardKeysCardSaid : Prop := Claim7.holds Tryd.pinned (.plain (OpenSpec.ofChange reshardKeysSpec)) reshardKeysCard

/-- THE TIED CARD OF 'cachetierlaw13.ReshardChain'. -/
def reshardChainCard : Claim7 := { stood := { row := reshardChainRow, standIns := [], harness := (true, "d4932a716e7d01e3c01c564e4b374e942a8265e859744c74fa3417b00cce6217"), looks := false }, kinds := [], alts := [], laidByText := true, laidKinds := [.data, .data, .data, .data], laidTests := true, laidLooks := .later }
def ReshardChainCardSaid : Prop := Claim7.holds Tryd.pinned (.plain (OpenSpec.ofChange reshardChainSpec)) reshardChainCard

/-- THE SECOND FORM's CARD OF 'cachetierlaw12.RingMatchesReference'. -/
def ringMatchesReferenceUptoCard : Claim7 := { stood := { row := ringMatchesReferenceUptoRow, standIns := [], harness := (true, "d4932a716e7d01e3c01c564e4b374e942a8265e859744c74fa3417b00cce6217"), looks := false }, kinds := [], alts := [], laidByText := true, laidKinds := [.data, .data, .data, .data], laidTests := true, laidLooks := .later }
def RingMatchesReferenceUptoCardSaid : Prop := Claim7.holds Tryd.pinned (.plain (OpenSpec.upto ringMatchesReferenceSpec)) ringMatchesReferenceUptoCard

/-- THE SECOND FORM's CARD OF 'cachetierlaw12.RingFunctionsMatchReference'. -/
def ringFunctionsMatchReferenceUptoCard : Claim7 := { stood := { row := ringFunctionsMatchReferenceUptoRow, standIns := [], harness := (true, "d4932a716e7d01e3c01c564e4b374e942a8265e859744c74fa3417b00cce6217"), looks := false }, kinds := [], alts := [], laidByText := true, laidKinds := [.data, .data, .data, .data], laidTests := true, laidLooks := .later }
def RingFunctionsMatchReferenceUptoCardSaid : Prop := Claim7.holds Tryd.pinned (.plain (OpenSpec.upto ringFunctionsMatchReferenceSpec)) ringFunctionsMatchReferenceUptoCard

/-- THE SECOND FORM's CARD OF 'cachetierlaw12.RingBounded'. -/
def ringBoundedUptoCard : Claim7 := { stood := { row := ringBoundedUptoRow, standIns := [], harness := (true, "d4932a716e7d01e3c01c564e4b374e942a8265e859744c74fa3417b00cce6217"), looks := false }, kinds := [], alts := [], laidByText := true, laidKinds := [.data, .data, .data, .data], laidTests := true, laidLooks := .later }
def RingBoundedUptoCardSaid : Prop := Claim7.holds Tryd.pinned (.plain (OpenSpec.upto ringBoundedSpec)) ringBoundedUptoCard

/-- THE SECOND FORM's CARD OF 'cachetierlaw12.RingConsistent'. -/
def ringConsistentUptoCard : Claim7 := { stood := { row := ringConsistentUptoRow, standIns := [], harness := (true, "d4932a716e7d01e3c01c564e4b374e942a8265e859744c74fa3417b00cce6217"), looks := false }, kinds := [], alts := [], laidByText := true, laidKinds := [.data, .data, .data, .data], laidTests := true, laidLooks := .later }
def RingConsistentUptoCardSaid : Prop := Claim7.holds Tryd.pinned (.plain (OpenSpec.upto ringConsistentSpec)) ringConsistentUptoCard

/-- THE SECOND FORM's CARD OF 'cachetierlaw12.RingClockwise'. -/
def ringClockwiseUptoCard : Claim7 := { stood := { row := ringClockwiseUptoRow, standIns := [], harness := (true, "d4932a716e7d01e3c01c564e4b374e942a8265e859744c74fa3417b00cce6217"), looks := false }, kinds := [], alts := [], laidByText := true, laidKinds := [.data, .data, .data, .data], laidTests := true, laidLooks := .later }
def RingClockwiseUptoCardSaid : Prop := Claim7.holds Tryd.pinned (.plain (OpenSpec.upto ringClockwiseSpec)) ringClockwiseUptoCard

/-- THE SECOND FORM's CARD OF 'cachetierlaw12.RingRegions'. -/
def ringRegionsUptoCard : Claim7 := { stood := { row := ringRegionsUptoRow, standIns := [], harness := (true, "d4932a716e7d01e3c01c564e4b374e942a8265e859744c74fa3417b00cce6217"), looks := false }, kinds := [], alts := [], laidByText := true, laidKinds := [.data, .data, .data, .data], laidTests := true, laidLooks := .later }
def RingRegionsUptoCardSaid : Prop := Claim7.holds Tryd.pinned (.plain (OpenSpec.upto ringRegionsSpec)) ringRegionsUptoCard

/-- THE SECOND FORM's CARD OF 'cachetierlaw12.RingOwners'. -/
def ringOwnersUptoCard : Claim7 := { stood := { row := ringOwnersUptoRow, standIns := [], harness := (true, "d4932a716e7d01e3c01c564e4b374e942a8265e859744c74fa3417b00cce6217"), looks := false }, kinds := [], alts := [], laidByText := true, laidKinds := [.data, .data, .data, .data], laidTests := true, laidLooks := .later }
def RingOwnersUptoCardSaid : Prop := Claim7.holds Tryd.pinned (.plain (OpenSpec.upto ringOwnersSpec)) ringOwnersUptoCard

/-- THE SECOND FORM's CARD OF 'cachetierlaw13.ReshardFew'. -/
def reshardFewUptoCard : Claim7 := { stood := { row := reshardFewUptoRow, standIns := [], harness := (true, "d4932a716e7d01e3c01c564e4b374e942a8265e859744c74fa3417b00cce6217"), looks := false }, kinds := [], alts := [], laidByText := true, laidKinds := [.data, .data, .data, .data], laidTests := true, laidLooks := .later }
def ReshardFewUptoCardSaid : Prop := Claim7.holds Tryd.pinned (.plain (OpenSpec.upto reshardFewSpec)) reshardFewUptoCard

/-- THE SECOND FORM's CARD OF 'cachetierlaw13.ReshardMoves'. -/
def reshardMovesUptoCard : Claim7 := { stood := { row := reshardMovesUptoRow, standIns := [], harness := (true, "d4932a716e7d01e3c01c564e4b374e942a8265e859744c74fa3417b00cce6217"), looks := false }, kinds := [], alts := [], laidByText := true, laidKinds := [.data, .data, .data, .data], laidTests := true, laidLooks := .later }
def ReshardMovesUptoCardSaid : Prop := Claim7.holds Tryd.pinned (.plain (OpenSpec.upto reshardMovesSpec)) reshardMovesUptoCard

/-- THE SECOND FORM's CARD OF 'cachetierlaw13.ReshardKeys'. -/
def reshardKeysUptoCard : Claim7 := { stood := { row := reshardKeysUptoRow, standIns := [], harness := (true, "d4932a716e7d01e3c01c564e4b374e942a8265e859744c74fa3417b00cce6217"), looks := false }, kinds := [], alts := [], laidByText := true, laidKinds := [.data, .data, .data, .data], laidTests := true, laidLooks := .later }
def ReshardKeysUptoCardSaid : Prop := Claim7.holds Tryd.pinned (.plain (OpenSpec.upto reshardKeysSpec)) reshardKeysUptoCard

/-- THE SECOND FORM's CARD OF 'cachetierlaw13.ReshardChain'. -/
def reshardChainUptoCard : Claim7 := { stood := { row := reshardChainUptoRow, standIns := [], harness := (true, "d4932a716e7d01e3c01c564e4b374e942a8265e859744c74fa3417b00cce6217"), looks := false }, kinds := [], alts := [], laidByText := true, laidKinds := [.data, .data, .data, .data], laidTests := true, laidLooks := .later }
def ReshardChainUptoCardSaid : Prop := Claim7.holds Tryd.pinned (.plain (OpenSpec.upto reshardChainSpec)) reshardChainUptoCard
end Rows
end Go.Proofs.YtplkmbfeeegaiaaDoor
