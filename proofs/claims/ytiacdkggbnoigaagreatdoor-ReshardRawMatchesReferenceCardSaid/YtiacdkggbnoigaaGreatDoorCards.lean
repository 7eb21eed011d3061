/-
  DERIVED. GIVEN WITH THE SEED: THE CARDS: each row of YtiacdkggbnoigaaGreatDoorRows.lean that lists a variable, with what it lists TIED to the program's text (the seventh form; the later family's looks); each row that meets fmt, with fmt's text TOLD by the authors' own Lean function (tested against real Go, not proved from fmt's source: count such statements apart). THE CARD IS WHAT COUNTS. Prove the row's statement (the work); the ties are given (YtiacdkggbnoigaaGreatDoorTie.lean); close each card by the builder's one call (the guide's Derived/Test/ToyasCard.lean, 'card_holds'). Laid BY PROGRAM, IN A SANDBOX (cutbox-door.mjs). By AI agents, Wed Nov 11 2026. No macro, syntax, notation, axiom, sorry.
-/
import Derived.Test.YtiacdkggbnoigaaGreatDoorRows
import GoSem.ClaimSeven
namespace Go.Proofs.YtiacdkggbnoigaaGreatDoor
namespace Rows

/-- THE TIED CARD OF 'cachetierlaw13.ReshardRawMatchesReference'. -/
def reshardRawMatchesReferenceCard : Claim7 := { stood := { row := reshardRawMatchesReferenceRow, standIns := [], harness := (true, "ccb22a231775b20a570567c7e9c5c8583f193d6bce3b69f9acc4dc83ad17589a"), looks := false }, kinds := [], alts := [], laidByText := true, laidKinds := [.data, .data, .data, .data], laidTests := true, laidLooks := .later }
def ReshardRawMatchesReferenceCardSaid : Prop := Claim7.holds Tryz.pinned (.plain (OpenSpec.ofChange reshardRawMatchesReferenceSpec)) reshardRawMatchesReferenceCard

/-- THE SECOND FORM's CARD OF 'cachetierlaw13.ReshardRawMatchesReference'. -/
def reshardRawMatchesReferenceUptoCard : Claim7 := { stood := { row := reshardRawMatchesReferenceUptoRow, standIns := [], harness := (true, "ccb22a231775b20a570567c7e9c5c8583f193d6bce3b69f9acc4dc83ad17589a"), looks := false }, kinds := [], alts := [], laidByText := true, laidKinds := [.data, .data, .data, .data], laidTests := true, laidLooks := .later }
def ReshardRawMatchesReferenceUptoCardSaid : Prop := Claim7.holds Tryz.pinned (.plain (OpenSpec.upto reshardRawMatchesReferenceSpec)) reshardRawMatchesReferenceUptoCard
end Rows
end Go.Proofs.YtiacdkggbnoigaaGreatDoor
