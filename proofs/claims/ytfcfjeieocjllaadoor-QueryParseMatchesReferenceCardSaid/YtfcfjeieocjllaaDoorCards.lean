/-
  DERIVED. GIVEN WITH THE SEED: THE CARDS: each row of YtfcfjeieocjllaaDoorRows.lean that lists a variable, with what it lists TIED to the program's text (the seventh form; the later family's looks); each row that meets fmt, with fmt's text TOLD by the authors' own Lean function (tested against real Go, not proved from fmt's source: count such statements apart). THE CARD IS WHAT COUNTS. Prove the row's statement (the work); the ties are given (YtfcfjeieocjllaaDoorTie.lean); close each card by the builder's one call (the guide's Derived/Test/ToyasCard.lean, 'card_holds'). Laid BY PROGRAM, IN A SANDBOX (cutbox-door.mjs). By AI agents, Wed Nov 11 2026. No macro, syntax, notation, axiom, sorry.
-/
import Derived.Test.YtfcfjeieocjllaaDoorRows
import GoSem.ClaimSeven
namespace Go.Proofs.YtfcfjeieocjllaaDoor
namespace Rows

/-- THE TIED CARD OF 'cachetierlaw05.QueryMatchesReference'. -/
def queryMatchesReferenceCard : Claim7 := { stood := { row := queryMatchesReferenceRow, standIns := [], harness := (true, "6b87c56f063ed3676e08164fa253a6d108942bccae45f48f1672ae2ff35cac8d"), looks := true }, kinds := [], alts := [], laidByText := true, laidKinds := [.data, .data, .data, .data, .sentinel, .sentinel, .sentinel, .pinned], laidTests := true, laidLooks := .later }
def QueryMatchesReferenceCardSaid : Prop := Claim7.holds Tryd.pinned (.plain (OpenSpec.ofChange queryMatchesReferenceSpec)) queryMatchesReferenceCard

/-- THE TIED CARD OF 'cachetierlaw05.QueryParseMatchesReference'. -/
def queryParseMatchesReferenceCard : Claim7 := { stood := { row := queryParseMatchesReferenceRow, standIns := [], harness := (true, "6b87c56f063ed3676e08164fa253a6d108942bccae45f48f1672ae2ff35cac8d"), looks := true }, kinds := [], alts := [], laidByText := true, laidKinds := [.data, .data, .data, .data, .sentinel, .sentinel, .sentinel, .pinned], laidTests := true, laidLooks := .later }
def QueryParseMatchesReferenceCardSaid : Prop := Claim7.holds Tryd.pinned (.plain (OpenSpec.ofChange queryParseMatchesReferenceSpec)) queryParseMatchesReferenceCard

/-- THE TIED CARD OF 'cachetierlaw05.QueryRoundTrip'. -/
def queryRoundTripCard : Claim7 := { stood := { row := queryRoundTripRow, standIns := [], harness := (true, "6b87c56f063ed3676e08164fa253a6d108942bccae45f48f1672ae2ff35cac8d"), looks := true }, kinds := [], alts := [], laidByText := true, laidKinds := [.data, .data, .data, .data, .sentinel, .sentinel, .sentinel, .pinned], laidTests := true, laidLooks := .later }
def QueryRoundTripCardSaid : Prop := Claim7.holds Tryd.pinned (.plain (OpenSpec.ofChange queryRoundTripSpec)) queryRoundTripCard

/-- THE TIED CARD OF 'cachetierlaw05.QueryParsedAgain'. -/
def queryParsedAgainCard : Claim7 := { stood := { row := queryParsedAgainRow, standIns := [], harness := (true, "6b87c56f063ed3676e08164fa253a6d108942bccae45f48f1672ae2ff35cac8d"), looks := true }, kinds := [], alts := [], laidByText := true, laidKinds := [.data, .data, .data, .data, .sentinel, .sentinel, .sentinel, .pinned], laidTests := true, laidLooks := .later }
def QueryParsedAgainCardSaid : Prop := Claim7.holds Tryd.pinned (.plain (OpenSpec.ofChange queryParsedAgainSpec)) queryParsedAgainCard

/-- THE TIED CARD OF 'cachetierlaw05.QueryKeys'. -/
def queryKeysCard : Claim7 := { stood := { row := queryKeysRow, standIns := [], harness := (true, "6b87c56f063ed3676e08164fa253a6d108942bccae45f48f1672ae2ff35cac8d"), looks := true }, kinds := [], alts := [], laidByText := true, laidKinds := [.data, .data, .data, .data, .sentinel, .sentinel, .sentinel, .pinned], laidTests := true, laidLooks := .later }
def QueryKeysCardSaid : Prop := Claim7.holds Tryd.pinned (.plain (OpenSpec.ofChange queryKeysSpec)) queryKeysCard

/-- THE TIED CARD OF 'cachetierlaw05.QueryLines'. -/
def queryLinesCard : Claim7 := { stood := { row := queryLinesRow, standIns := [], harness := (true, "6b87c56f063ed3676e08164fa253a6d108942bccae45f48f1672ae2ff35cac8d"), looks := true }, kinds := [], alts := [], laidByText := true, laidKinds := [.data, .data, .data, .data, .sentinel, .sentinel, .sentinel, .pinned], laidTests := true, laidLooks := .later }
def QueryLinesCardSaid : Prop := Claim7.holds Tryd.pinned (.plain (OpenSpec.ofChange queryLinesSpec)) queryLinesCard

/-- THE SECOND FORM's CARD OF 'cachetierlaw05.QueryMatchesReference'. -/
def queryMatchesReferenceUptoCard : Claim7 := { stood := { row := queryMatchesReferenceUptoRow, standIns := [], harness := (true, "6b87c56f063ed3676e08164fa253a6d108942bccae45f48f1672ae2ff35cac8d"), looks := true }, kinds := [], alts := [], laidByText := true, laidKinds := [.data, .data, .data, .data, .sentinel, .sentinel, .sentinel, .pinned], laidTests := true, laidLooks := .later }
def QueryMatchesReferenceUptoCardSaid : Prop := Claim7.holds Tryd.pinned (.plain (OpenSpec.upto queryMatchesReferenceSpec)) queryMatchesReferenceUptoCard

/-- THE SECOND FORM's CARD OF 'cachetierlaw05.QueryParseMatchesReference'. -/
def queryParseMatchesReferenceUptoCard : Claim7 := { stood := { row := queryParseMatchesReferenceUptoRow, standIns := [], harness := (true, "6b87c56f063ed3676e08164fa253a6d108942bccae45f48f1672ae2ff35cac8d"), looks := true }, kinds := [], alts := [], laidByText := true, laidKinds := [.data, .data, .data, .data, .sentinel, .sentinel, .sentinel, .pinned], laidTests := true, laidLooks := .later }
def QueryParseMatchesReferenceUptoCardSaid : Prop := Claim7.holds Tryd.pinned (.plain (OpenSpec.upto queryParseMatchesReferenceSpec)) queryParseMatchesReferenceUptoCard

/-- THE SECOND FORM's CARD OF 'cachetierlaw05.QueryRoundTrip'. -/
def queryRoundTripUptoCard : Claim7 := { stood := { row := queryRoundTripUptoRow, standIns := [], harness := (true, "6b87c56f063ed3676e08164fa253a6d108942bccae45f48f1672ae2ff35cac8d"), looks := true }, kinds := [], alts := [], laidByText := true, laidKinds := [.data, .data, .data, .data, .sentinel, .sentinel, .sentinel, .pinned], laidTests := true, laidLooks := .later }
def QueryRoundTripUptoCardSaid : Prop := Claim7.holds Tryd.pinned (.plain (OpenSpec.upto queryRoundTripSpec)) queryRoundTripUptoCard

/-- THE SECOND FORM's CARD OF 'cachetierlaw05.QueryParsedAgain'. -/
def queryParsedAgainUptoCard : Claim7 := { stood := { row := queryParsedAgainUptoRow, standIns := [], harness := (true, "6b87c56f063ed3676e08164fa253a6d108942bccae45f48f1672ae2ff35cac8d"), looks := true }, kinds := [], alts := [], laidByText := true, laidKinds := [.data, .data, .data, .data, .sentinel, .sentinel, .sentinel, .pinned], laidTests := true, laidLooks := .later }
def QueryParsedAgainUptoCardSaid : Prop := Claim7.holds Tryd.pinned (.plain (OpenSpec.upto queryParsedAgainSpec)) queryParsedAgainUptoCard

/-- THE SECOND FORM's CARD OF 'cachetierlaw05.QueryKeys'. -/
def queryKeysUptoCard : Claim7 := { stood := { row := queryKeysUptoRow, standIns := [], harness := (true, "6b87c56f063ed3676e08164fa253a6d108942bccae45f48f1672ae2ff35cac8d"), looks := true }, kinds := [], alts := [], laidByText := true, laidKinds := [.data, .data, .data, .data, .sentinel, .sentinel, .sentinel, .pinned], laidTests := true, laidLooks := .later }
def QueryKeysUptoCardSaid : Prop := Claim7.holds Tryd.pinned (.plain (OpenSpec.upto queryKeysSpec)) queryKeysUptoCard

/-- THE SECOND FORM's CARD OF 'cachetierlaw05.QueryLines'. -/
def queryLinesUptoCard : Claim7 := { stood := { row := queryLinesUptoRow, standIns := [], harness := (true, "6b87c56f063ed3676e08164fa253a6d108942bccae45f48f1672ae2ff35cac8d"), looks := true }, kinds := [], alts := [], laidByText := true, laidKinds := [.data, .data, .data, .data, .sentinel, .sentinel, .sentinel, .pinned], laidTests := true, laidLooks := .later }
def QueryLinesUptoCardSaid : Prop := Claim7.holds Tryd.pinned (.plain (OpenSpec.upto queryLinesSpec)) queryLinesUptoCard
end Rows
end Go.Proofs.YtfcfjeieocjllaaDoor
