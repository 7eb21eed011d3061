/-
  DERIVED. GIVEN WITH THE SEED: THE CARDS: each row of YtcnpncndecjahaaGreatDoorRows.lean that lists a variable, with what it lists TIED to the program's text (the seventh form; the later family's looks); each row that meets fmt, with fmt's text TOLD by the authors' own Lean function (tested against real Go, not proved from fmt's source: count such statements apart). THE CARD IS WHAT COUNTS. Prove the row's statement (the work); the ties are given (YtcnpncndecjahaaGreatDoorTie.lean); close each card by the builder's one call (the guide's Derived/Test/ToyasCard.lean, 'card_holds'). Laid BY PROGRAM, IN A SANDBOX (cutbox-door.mjs). By AI agents, Wed Nov 11 2026. No macro, syntax, notation, axiom, sorry.
-/
import Derived.Test.YtcnpncndecjahaaGreatDoorRows
import GoSem.ClaimSeven
namespace Go.Proofs.YtcnpncndecjahaaGreatDoor
namespace Rows

/-- THE TIED CARD OF 'cachetierlaw17.MemoryResults'. -/
def memoryResultsCard : Claim7 := { stood := { row := memoryResultsRow, standIns := [], harness := (true, "8f3f7ae1712406e379bc26ac7aacb446f1f5828b6a4ac2a78fd5ec9e28574049"), looks := false }, kinds := [], alts := [], laidByText := true, laidKinds := [.data, .data, .data], laidTests := true, laidLooks := .later }
def MemoryResultsCardSaid : Prop := Claim7.holds Tryz.pinned (.plain (OpenSpec.ofChange memoryResultsSpec)) memoryResultsCard

/-- THE SECOND FORM's CARD OF 'cachetierlaw17.MemoryResults'. -/
def memoryResultsUptoCard : Claim7 := { stood := { row := memoryResultsUptoRow, standIns := [], harness := (true, "8f3f7ae1712406e379bc26ac7aacb446f1f5828b6a4ac2a78fd5ec9e28574049"), looks := false }, kinds := [], alts := [], laidByText := true, laidKinds := [.data, .data, .data], laidTests := true, laidLooks := .later }
def MemoryResultsUptoCardSaid : Prop := Claim7.holds Tryz.pinned (.plain (OpenSpec.upto memoryResultsSpec)) memoryResultsUptoCard
end Rows
end Go.Proofs.YtcnpncndecjahaaGreatDoor
