/-
  DERIVED. GIVEN WITH THE SEED: THE CARDS: each row of YtplkmbfeeegaiaaGreatDoorRows.lean that lists a variable, with what it lists TIED to the program's text (the seventh form; the later family's looks); each row that meets fmt, with fmt's text TOLD by the authors' own Lean function (tested against real Go, not proved from fmt's source: count such statements apart). THE CARD IS WHAT COUNTS. Prove the row's statement (the work); the ties are given (YtplkmbfeeegaiaaGreatDoorTie.lean); close each card by the builder's one call (the guide's Derived/Test/ToyasCard.lean, 'card_holds'). Laid BY PROGRAM, IN A SANDBOX (cutbox-door.mjs). By AI agents, Wed Nov 11 2026. No macro, syntax, notation, axiom, sorry.
-/
import Derived.Test.YtplkmbfeeegaiaaGreatDoorRows
import GoSem.ClaimSeven
namespace Go.Proofs.YtplkmbfeeegaiaaGreatDoor
namespace Rows

/-- THE TIED CARD OF 'cachetierlaw13.ReshardMatchesReference'. -/
def reshardMatchesReferenceCard : Claim7 := { stood := { row := reshardMatchesReferenceRow, standIns := [], harness := (true, "99d6517af8e02c79970d9b0e336b3d6b44374abd5b3e563b92141752b893bde1"), looks := false }, kinds := [], alts := [], laidByText := true, laidKinds := [.data, .data, .data, .data], laidTests := true, laidLooks := .later }
def ReshardMatchesReferenceCardSaid : Prop := Claim7.holds Tryz.pinned (.plain (OpenSpec.ofChange reshardMatchesReferenceSpec)) reshardMatchesReferenceCard

/-- THE TIED CARD OF 'cachetierlaw13.ReshardRawMatchesReference'. -/
def reshardRawMatchesReferenceCard : Claim7 := { stood := { row := reshardRawMatchesReferenceRow, standIns := [], harness := (true, "99d6517af8e02c79970d9b0e336b3d6b44374abd5b3e563b92141752b893bde1"), looks := false }, kinds := [], alts := [], laidByText := true, laidKinds := [.data, .data, .data, .data], laidTests := true, laidLooks := .later }
def ReshardRawMatchesReferenceCardSaid : Prop := Claim7.holds Tryz.pinned (.plain (OpenSpec.ofChange reshardRawMatchesReferenceSpec)) reshardRawMatchesReferenceCard

/-- THE TIED CARD OF 'cachetierlaw15.ReplicateMatchesReference'. -/
def replicateMatchesReferenceCard : Claim7 := { stood := { row := replicateMatchesReferenceRow, standIns := [], harness := (true, "99d6517af8e02c79970d9b0e336b3d6b44374abd5b3e563b92141752b893bde1"), looks := false }, kinds := [], alts := [], laidByText := true, laidKinds := [.data, .data, .data, .data], laidTests := true, laidLooks := .later }
def ReplicateMatchesReferenceCardSaid : Prop := Claim7.holds Tryz.pinned (.plain (OpenSpec.ofChange replicateMatchesReferenceSpec)) replicateMatchesReferenceCard

/-- THE TIED CARD OF 'cachetierlaw15.ReplicateHotMatchesReference'. -/
def replicateHotMatchesReferenceCard : Claim7 := { stood := { row := replicateHotMatchesReferenceRow, standIns := [], harness := (true, "99d6517af8e02c79970d9b0e336b3d6b44374abd5b3e563b92141752b893bde1"), looks := false }, kinds := [], alts := [], laidByText := true, laidKinds := [.data, .data, .data, .data], laidTests := true, laidLooks := .later }
def ReplicateHotMatchesReferenceCardSaid : Prop := Claim7.holds Tryz.pinned (.plain (OpenSpec.ofChange replicateHotMatchesReferenceSpec)) replicateHotMatchesReferenceCard

/-- THE TIED CARD OF 'cachetierlaw15.ReplicateHolders'. -/
def replicateHoldersCard : Claim7 := { stood := { row := replicateHoldersRow, standIns := [], harness := (true, "99d6517af8e02c79970d9b0e336b3d6b44374abd5b3e563b92141752b893bde1"), looks := false }, kinds := [], alts := [], laidByText := true, laidKinds := [.data, .data, .data, .data], laidTests := true, laidLooks := .later }
def ReplicateHoldersCardSaid : Prop := Claim7.holds Tryz.pinned (.plain (OpenSpec.ofChange replicateHoldersSpec)) replicateHoldersCard

/-- THE TIED CARD OF 'cachetierlaw15.ReplicateRegions'. -/
def replicateRegionsCard : Claim7 := { stood := { row := replicateRegionsRow, standIns := [], harness := (true, "99d6517af8e02c79970d9b0e336b3d6b44374abd5b3e563b92141752b893bde1"), looks := false }, kinds := [], alts := [], laidByText := true, laidKinds := [.data, .data, .data, .data], laidTests := true, laidLooks := .later }
def ReplicateRegionsCardSaid : Prop := Claim7.holds Tryz.pinned (.plain (OpenSpec.ofChange replicateRegionsSpec)) replicateRegionsCard

/-- THE TIED CARD OF 'cachetierlaw15.ReplicateStable'. -/
def replicateStableCard : Claim7 := { stood := { row := replicateStableRow, standIns := [], harness := (true, "99d6517af8e02c79970d9b0e336b3d6b44374abd5b3e563b92141752b893bde1"), looks := false }, kinds := [], alts := [], laidByText := true, laidKinds := [.data, .data, .data, .data], laidTests := true, laidLooks := .later }
def ReplicateStableCardSaid : Prop := Claim7.holds Tryz.pinned (.plain (OpenSpec.ofChange replicateStableSpec)) replicateStableCard

/-- THE TIED CARD OF 'cachetierlaw15.ReplicateHot'. -/
def replicateHotCard : Claim7 := { stood := { row := replicateHotRow, standIns := [], harness := (true, "99d6517af8e02c79970d9b0e336b3d6b44374abd5b3e563b92141752b893bde1"), looks := false }, kinds := [], alts := [], laidByText := true, laidKinds := [.data, .data, .data, .data], laidTests := true, laidLooks := .later }
def ReplicateHotCardSaid : Prop := Claim7.holds Tryz.pinned (.plain (OpenSpec.ofChange replicateHotSpec)) replicateHotCard

/-- THE TIED CARD OF 'cachetierlaw15.ReplicateSpread'. -/
def replicateSpreadCard : Claim7 := { stood := { row := replicateSpreadRow, standIns := [], harness := (true, "99d6517af8e02c79970d9b0e336b3d6b44374abd5b3e563b92141752b893bde1"), looks := false }, kinds := [], alts := [], laidByText := true, laidKinds := [.data, .data, .data, .data], laidTests := true, laidLooks := .later }
def ReplicateSpreadCardSaid : Prop := Claim7.holds Tryz.pinned (.plain (OpenSpec.ofChange replicateSpreadSpec)) replicateSpreadCard

/-- THE SECOND FORM's CARD OF 'cachetierlaw13.ReshardMatchesReference'. -/
def reshardMatchesReferenceUptoCard : Claim7 := { stood := { row := reshardMatchesReferenceUptoRow, standIns := [], harness := (true, "99d6517af8e02c79970d9b0e336b3d6b44374abd5b3e563b92141752b893bde1"), looks := false }, kinds := [], alts := [], laidByText := true, laidKinds := [.data, .data, .data, .data], laidTests := true, laidLooks := .later }
def ReshardMatchesReferenceUptoCardSaid : Prop := Claim7.holds Tryz.pinned (.plain (OpenSpec.upto reshardMatchesReferenceSpec)) reshardMatchesReferenceUptoCard

/-- THE SECOND FORM's CARD OF 'cachetierlaw13.ReshardRawMatchesReference'. -/
def reshardRawMatchesReferenceUptoCard : Claim7 := { stood := { row := reshardRawMatchesReferenceUptoRow, standIns := [], harness := (true, "99d6517af8e02c79970d9b0e336b3d6b44374abd5b3e563b92141752b893bde1"), looks := false }, kinds := [], alts := [], laidByText := true, laidKinds := [.data, .data, .data, .data], laidTests := true, laidLooks := .later }
def ReshardRawMatchesReferenceUptoCardSaid : Prop := Claim7.holds Tryz.pinned (.plain (OpenSpec.upto reshardRawMatchesReferenceSpec)) reshardRawMatchesReferenceUptoCard

/-- THE SECOND FORM's CARD OF 'cachetierlaw15.ReplicateMatchesReference'. -/
def replicateMatchesReferenceUptoCard : Claim7 := { stood := { row := replicateMatchesReferenceUptoRow, standIns := [], harness := (true, "99d6517af8e02c79970d9b0e336b3d6b44374abd5b3e563b92141752b893bde1"), looks := false }, kinds := [], alts := [], laidByText := true, laidKinds := [.data, .data, .data, .data], laidTests := true, laidLooks := .later }
def ReplicateMatchesReferenceUptoCardSaid : Prop := Claim7.holds Tryz.pinned (.plain (OpenSpec.upto replicateMatchesReferenceSpec)) replicateMatchesReferenceUptoCard

/-- THE SECOND FORM's CARD OF 'cachetierlaw15.ReplicateHotMatchesReference'. -/
def replicateHotMatchesReferenceUptoCard : Claim7 := { stood := { row := replicateHotMatchesReferenceUptoRow, standIns := [], harness := (true, "99d6517af8e02c79970d9b0e336b3d6b44374abd5b3e563b92141752b893bde1"), looks := false }, kinds := [], alts := [], laidByText := true, laidKinds := [.data, .data, .data, .data], laidTests := true, laidLooks := .later }
def ReplicateHotMatchesReferenceUptoCardSaid : Prop := Claim7.holds Tryz.pinned (.plain (OpenSpec.upto replicateHotMatchesReferenceSpec)) replicateHotMatchesReferenceUptoCard

/-- THE SECOND FORM's CARD OF 'cachetierlaw15.ReplicateHolders'. -/
def replicateHoldersUptoCard : Claim7 := { stood := { row := replicateHoldersUptoRow, standIns := [], harness := (true, "99d6517af8e02c79970d9b0e336b3d6b44374abd5b3e563b92141752b893bde1"), looks := false }, kinds := [], alts := [], laidByText := true, laidKinds := [.data, .data, .data, .data], laidTests := true, laidLooks := .later }
def ReplicateHoldersUptoCardSaid : Prop := Claim7.holds Tryz.pinned (.plain (OpenSpec.upto replicateHoldersSpec)) replicateHoldersUptoCard

/-- THE SECOND FORM's CARD OF 'cachetierlaw15.ReplicateRegions'. -/
def replicateRegionsUptoCard : Claim7 := { stood := { row := replicateRegionsUptoRow, standIns := [], harness := (true, "99d6517af8e02c79970d9b0e336b3d6b44374abd5b3e563b92141752b893bde1"), looks := false }, kinds := [], alts := [], laidByText := true, laidKinds := [.data, .data, .data, .data], laidTests := true, laidLooks := .later }
def ReplicateRegionsUptoCardSaid : Prop := Claim7.holds Tryz.pinned (.plain (OpenSpec.upto replicateRegionsSpec)) replicateRegionsUptoCard

/-- THE SECOND FORM's CARD OF 'cachetierlaw15.ReplicateStable'. -/
def replicateStableUptoCard : Claim7 := { stood := { row := replicateStableUptoRow, standIns := [], harness := (true, "99d6517af8e02c79970d9b0e336b3d6b44374abd5b3e563b92141752b893bde1"), looks := false }, kinds := [], alts := [], laidByText := true, laidKinds := [.data, .data, .data, .data], laidTests := true, laidLooks := .later }
def ReplicateStableUptoCardSaid : Prop := Claim7.holds Tryz.pinned (.plain (OpenSpec.upto replicateStableSpec)) replicateStableUptoCard

/-- THE SECOND FORM's CARD OF 'cachetierlaw15.ReplicateHot'. -/
def replicateHotUptoCard : Claim7 := { stood := { row := replicateHotUptoRow, standIns := [], harness := (true, "99d6517af8e02c79970d9b0e336b3d6b44374abd5b3e563b92141752b893bde1"), looks := false }, kinds := [], alts := [], laidByText := true, laidKinds := [.data, .data, .data, .data], laidTests := true, laidLooks := .later }
def ReplicateHotUptoCardSaid : Prop := Claim7.holds Tryz.pinned (.plain (OpenSpec.upto replicateHotSpec)) replicateHotUptoCard

/-- THE SECOND FORM's CARD OF 'cachetierlaw15.ReplicateSpread'. -/
def replicateSpreadUptoCard : Claim7 := { stood := { row := replicateSpreadUptoRow, standIns := [], harness := (true, "99d6517af8e02c79970d9b0e336b3d6b44374abd5b3e563b92141752b893bde1"), looks := false }, kinds := [], alts := [], laidByText := true, laidKinds := [.data, .data, .data, .data], laidTests := true, laidLooks := .later }
def ReplicateSpreadUptoCardSaid : Prop := Claim7.holds Tryz.pinned (.plain (OpenSpec.upto replicateSpreadSpec)) replicateSpreadUptoCard
end Rows
end Go.Proofs.YtplkmbfeeegaiaaGreatDoor
