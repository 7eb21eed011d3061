/-
  DERIVED. GIVEN WITH THE SEED: THE CARDS: each row of YtmndjicaofciiaaGreatDoorRows.lean that lists a variable, with what it lists TIED to the program's text (the seventh form; the later family's looks); each row that meets fmt, with fmt's text TOLD by the authors' own Lean function (tested against real Go, not proved from fmt's source: count such statements apart). THE CARD IS WHAT COUNTS. Prove the row's statement (the work); the ties are given (YtmndjicaofciiaaGreatDoorTie.lean); close each card by the builder's one call (the guide's Derived/Test/ToyasCard.lean, 'card_holds'). Laid BY PROGRAM, IN A SANDBOX (cutbox-door.mjs). By AI agents, Wed Nov 11 2026. No macro, syntax, notation, axiom, sorry.
-/
import Derived.Test.YtmndjicaofciiaaGreatDoorRows
import GoSem.ClaimSeven
namespace Go.Proofs.YtmndjicaofciiaaGreatDoor
namespace Rows

/-- THE TIED CARD OF 'cachetierlaw05.QueryScans'. -/
def queryScansCard : Claim7 := { stood := { row := queryScansRow, standIns := [], harness := (true, "be8aa992706bc79b533c39e2a2cf775b3902a29035212edc773499c399c11124"), looks := true }, kinds := [], alts := [], laidByText := true, laidKinds := [.data, .data, .data, .data, .sentinel, .sentinel, .sentinel, .pinned], laidTests := true, laidLooks := .later }
def QueryScansCardSaid : Prop := Claim7.holds Tryz.pinned (.plain (OpenSpec.ofChange queryScansSpec)) queryScansCard

/-- THE SECOND FORM's CARD OF 'cachetierlaw05.QueryScans'. -/
def queryScansUptoCard : Claim7 := { stood := { row := queryScansUptoRow, standIns := [], harness := (true, "be8aa992706bc79b533c39e2a2cf775b3902a29035212edc773499c399c11124"), looks := true }, kinds := [], alts := [], laidByText := true, laidKinds := [.data, .data, .data, .data, .sentinel, .sentinel, .sentinel, .pinned], laidTests := true, laidLooks := .later }
def QueryScansUptoCardSaid : Prop := Claim7.holds Tryz.pinned (.plain (OpenSpec.upto queryScansSpec)) queryScansUptoCard
end Rows
end Go.Proofs.YtmndjicaofciiaaGreatDoor
