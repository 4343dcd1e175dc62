/-
  DERIVED. GIVEN WITH THE SEED: THE CARDS: each row of YtfglcgbgaeegaaaGreatDoorRows.lean that lists a variable, with what it lists TIED to the program's text (the seventh form; the later family's looks); each row that meets fmt, with fmt's text TOLD by the authors' own Lean function (tested against real Go, not proved from fmt's source: count such statements apart). THE CARD IS WHAT COUNTS. Prove the row's statement (the work); the ties are given (YtfglcgbgaeegaaaGreatDoorTie.lean); close each card by the builder's one call (the guide's Derived/Test/ToyasCard.lean, 'card_holds'). Laid BY PROGRAM, IN A SANDBOX (cutbox-door.mjs). By AI agents, Wed Nov 11 2026. No macro, syntax, notation, axiom, sorry.
-/
import Derived.Test.YtfglcgbgaeegaaaGreatDoorRows
import GoSem.ClaimSeven
namespace Go.Proofs.YtfglcgbgaeegaaaGreatDoor
namespace Rows

/-- THE TIED CARD OF 'garmentlaw19.DraftMoves'. -/
def draftMovesCard : Claim7 := { stood := { row := draftMovesRow, standIns := [], harness := (true, "f196fc1a0609079d78c2177cf9d49f1f4989b2b1d790773f76090d092aaddc95"), looks := true }, kinds := [], alts := [], laidByText := true, laidKinds := [.data, .data, .data, .data, .sentinel, .sentinel, .data, .pinned], laidTests := true, laidLooks := .later }
def DraftMovesCardSaid : Prop := Claim7.holds Tryz.pinned (.plain (OpenSpec.ofChange draftMovesSpec)) draftMovesCard

/-- THE TIED CARD OF 'garmentlaw19.DraftNeeds'. -/
def draftNeedsCard : Claim7 := { stood := { row := draftNeedsRow, standIns := [], harness := (true, "f196fc1a0609079d78c2177cf9d49f1f4989b2b1d790773f76090d092aaddc95"), looks := true }, kinds := [], alts := [], laidByText := true, laidKinds := [.data, .data, .data, .data, .sentinel, .sentinel, .data, .pinned], laidTests := true, laidLooks := .later }
def DraftNeedsCardSaid : Prop := Claim7.holds Tryz.pinned (.plain (OpenSpec.ofChange draftNeedsSpec)) draftNeedsCard

/-- THE TIED CARD OF 'garmentlaw19.DraftChecks'. -/
def draftChecksCard : Claim7 := { stood := { row := draftChecksRow, standIns := [], harness := (true, "f196fc1a0609079d78c2177cf9d49f1f4989b2b1d790773f76090d092aaddc95"), looks := true }, kinds := [], alts := [], laidByText := true, laidKinds := [.data, .data, .data, .data, .sentinel, .sentinel, .data, .pinned], laidTests := true, laidLooks := .later }
def DraftChecksCardSaid : Prop := Claim7.holds Tryz.pinned (.plain (OpenSpec.ofChange draftChecksSpec)) draftChecksCard

/-- THE TIED CARD OF 'garmentlaw19.DraftParses'. -/
def draftParsesCard : Claim7 := { stood := { row := draftParsesRow, standIns := [], harness := (true, "f196fc1a0609079d78c2177cf9d49f1f4989b2b1d790773f76090d092aaddc95"), looks := true }, kinds := [], alts := [], laidByText := true, laidKinds := [.data, .data, .data, .data, .sentinel, .sentinel, .data, .pinned], laidTests := true, laidLooks := .later }
def DraftParsesCardSaid : Prop := Claim7.holds Tryz.pinned (.plain (OpenSpec.ofChange draftParsesSpec)) draftParsesCard

/-- THE TIED CARD OF 'garmentlaw19.DraftPrints'. -/
def draftPrintsCard : Claim7 := { stood := { row := draftPrintsRow, standIns := [], harness := (true, "f196fc1a0609079d78c2177cf9d49f1f4989b2b1d790773f76090d092aaddc95"), looks := true }, kinds := [], alts := [], laidByText := true, laidKinds := [.data, .data, .data, .data, .sentinel, .sentinel, .data, .pinned], laidTests := true, laidLooks := .later }
def DraftPrintsCardSaid : Prop := Claim7.holds Tryz.pinned (.plain (OpenSpec.ofChange draftPrintsSpec)) draftPrintsCard

/-- THE TIED CARD OF 'garmentlaw19.DraftRuns'. -/
def draftRunsCard : Claim7 := { stood := { row := draftRunsRow, standIns := [], harness := (true, "f196fc1a0609079d78c2177cf9d49f1f4989b2b1d790773f76090d092aaddc95"), looks := true }, kinds := [], alts := [], laidByText := true, laidKinds := [.data, .data, .data, .data, .sentinel, .sentinel, .data, .pinned], laidTests := true, laidLooks := .later }
def DraftRunsCardSaid : Prop := Claim7.holds Tryz.pinned (.plain (OpenSpec.ofChange draftRunsSpec)) draftRunsCard

/-- THE TIED CARD OF 'garmentlaw19.DraftReads'. -/
def draftReadsCard : Claim7 := { stood := { row := draftReadsRow, standIns := [], harness := (true, "f196fc1a0609079d78c2177cf9d49f1f4989b2b1d790773f76090d092aaddc95"), looks := true }, kinds := [], alts := [], laidByText := true, laidKinds := [.data, .data, .data, .data, .sentinel, .sentinel, .data, .pinned], laidTests := true, laidLooks := .later }
def DraftReadsCardSaid : Prop := Claim7.holds Tryz.pinned (.plain (OpenSpec.ofChange draftReadsSpec)) draftReadsCard

/-- THE TIED CARD OF 'garmentlaw19.DraftBegins'. -/
def draftBeginsCard : Claim7 := { stood := { row := draftBeginsRow, standIns := [], harness := (true, "f196fc1a0609079d78c2177cf9d49f1f4989b2b1d790773f76090d092aaddc95"), looks := true }, kinds := [], alts := [], laidByText := true, laidKinds := [.data, .data, .data, .data, .sentinel, .sentinel, .data, .pinned], laidTests := true, laidLooks := .later }
def DraftBeginsCardSaid : Prop := Claim7.holds Tryz.pinned (.plain (OpenSpec.ofChange draftBeginsSpec)) draftBeginsCard

/-- THE TIED CARD OF 'garmentlaw19.DraftMirrors'. -/
def draftMirrorsCard : Claim7 := { stood := { row := draftMirrorsRow, standIns := [], harness := (true, "f196fc1a0609079d78c2177cf9d49f1f4989b2b1d790773f76090d092aaddc95"), looks := true }, kinds := [], alts := [], laidByText := true, laidKinds := [.data, .data, .data, .data, .sentinel, .sentinel, .data, .pinned], laidTests := true, laidLooks := .later }
def DraftMirrorsCardSaid : Prop := Claim7.holds Tryz.pinned (.plain (OpenSpec.ofChange draftMirrorsSpec)) draftMirrorsCard

/-- THE SECOND FORM's CARD OF 'garmentlaw19.DraftMoves'. -/
def draftMovesUptoCard : Claim7 := { stood := { row := draftMovesUptoRow, standIns := [], harness := (true, "f196fc1a0609079d78c2177cf9d49f1f4989b2b1d790773f76090d092aaddc95"), looks := true }, kinds := [], alts := [], laidByText := true, laidKinds := [.data, .data, .data, .data, .sentinel, .sentinel, .data, .pinned], laidTests := true, laidLooks := .later }
def DraftMovesUptoCardSaid : Prop := Claim7.holds Tryz.pinned (.plain (OpenSpec.upto draftMovesSpec)) draftMovesUptoCard

/-- THE SECOND FORM's CARD OF 'garmentlaw19.DraftNeeds'. -/
def draftNeedsUptoCard : Claim7 := { stood := { row := draftNeedsUptoRow, standIns := [], harness := (true, "f196fc1a0609079d78c2177cf9d49f1f4989b2b1d790773f76090d092aaddc95"), looks := true }, kinds := [], alts := [], laidByText := true, laidKinds := [.data, .data, .data, .data, .sentinel, .sentinel, .data, .pinned], laidTests := true, laidLooks := .later }
def DraftNeedsUptoCardSaid : Prop := Claim7.holds Tryz.pinned (.plain (OpenSpec.upto draftNeedsSpec)) draftNeedsUptoCard

/-- THE SECOND FORM's CARD OF 'garmentlaw19.DraftChecks'. -/
def draftChecksUptoCard : Claim7 := { stood := { row := draftChecksUptoRow, standIns := [], harness := (true, "f196fc1a0609079d78c2177cf9d49f1f4989b2b1d790773f76090d092aaddc95"), looks := true }, kinds := [], alts := [], laidByText := true, laidKinds := [.data, .data, .data, .data, .sentinel, .sentinel, .data, .pinned], laidTests := true, laidLooks := .later }
def DraftChecksUptoCardSaid : Prop := Claim7.holds Tryz.pinned (.plain (OpenSpec.upto draftChecksSpec)) draftChecksUptoCard

/-- THE SECOND FORM's CARD OF 'garmentlaw19.DraftParses'. -/
def draftParsesUptoCard : Claim7 := { stood := { row := draftParsesUptoRow, standIns := [], harness := (true, "f196fc1a0609079d78c2177cf9d49f1f4989b2b1d790773f76090d092aaddc95"), looks := true }, kinds := [], alts := [], laidByText := true, laidKinds := [.data, .data, .data, .data, .sentinel, .sentinel, .data, .pinned], laidTests := true, laidLooks := .later }
def DraftParsesUptoCardSaid : Prop := Claim7.holds Tryz.pinned (.plain (OpenSpec.upto draftParsesSpec)) draftParsesUptoCard

/-- THE SECOND FORM's CARD OF 'garmentlaw19.DraftPrints'. -/
def draftPrintsUptoCard : Claim7 := { stood := { row := draftPrintsUptoRow, standIns := [], harness := (true, "f196fc1a0609079d78c2177cf9d49f1f4989b2b1d790773f76090d092aaddc95"), looks := true }, kinds := [], alts := [], laidByText := true, laidKinds := [.data, .data, .data, .data, .sentinel, .sentinel, .data, .pinned], laidTests := true, laidLooks := .later }
def DraftPrintsUptoCardSaid : Prop := Claim7.holds Tryz.pinned (.plain (OpenSpec.upto draftPrintsSpec)) draftPrintsUptoCard

/-- THE SECOND FORM's CARD OF 'garmentlaw19.DraftRuns'. -/
def draftRunsUptoCard : Claim7 := { stood := { row := draftRunsUptoRow, standIns := [], harness := (true, "f196fc1a0609079d78c2177cf9d49f1f4989b2b1d790773f76090d092aaddc95"), looks := true }, kinds := [], alts := [], laidByText := true, laidKinds := [.data, .data, .data, .data, .sentinel, .sentinel, .data, .pinned], laidTests := true, laidLooks := .later }
def DraftRunsUptoCardSaid : Prop := Claim7.holds Tryz.pinned (.plain (OpenSpec.upto draftRunsSpec)) draftRunsUptoCard

/-- THE SECOND FORM's CARD OF 'garmentlaw19.DraftReads'. -/
def draftReadsUptoCard : Claim7 := { stood := { row := draftReadsUptoRow, standIns := [], harness := (true, "f196fc1a0609079d78c2177cf9d49f1f4989b2b1d790773f76090d092aaddc95"), looks := true }, kinds := [], alts := [], laidByText := true, laidKinds := [.data, .data, .data, .data, .sentinel, .sentinel, .data, .pinned], laidTests := true, laidLooks := .later }
def DraftReadsUptoCardSaid : Prop := Claim7.holds Tryz.pinned (.plain (OpenSpec.upto draftReadsSpec)) draftReadsUptoCard

/-- THE SECOND FORM's CARD OF 'garmentlaw19.DraftBegins'. -/
def draftBeginsUptoCard : Claim7 := { stood := { row := draftBeginsUptoRow, standIns := [], harness := (true, "f196fc1a0609079d78c2177cf9d49f1f4989b2b1d790773f76090d092aaddc95"), looks := true }, kinds := [], alts := [], laidByText := true, laidKinds := [.data, .data, .data, .data, .sentinel, .sentinel, .data, .pinned], laidTests := true, laidLooks := .later }
def DraftBeginsUptoCardSaid : Prop := Claim7.holds Tryz.pinned (.plain (OpenSpec.upto draftBeginsSpec)) draftBeginsUptoCard

/-- THE SECOND FORM's CARD OF 'garmentlaw19.DraftMirrors'. -/
def draftMirrorsUptoCard : Claim7 := { stood := { row := draftMirrorsUptoRow, standIns := [], harness := (true, "f196fc1a0609079d78c2177cf9d49f1f4989b2b1d790773f76090d092aaddc95"), looks := true }, kinds := [], alts := [], laidByText := true, laidKinds := [.data, .data, .data, .data, .sentinel, .sentinel, .data, .pinned], laidTests := true, laidLooks := .later }
def DraftMirrorsUptoCardSaid : Prop := Claim7.holds Tryz.pinned (.plain (OpenSpec.upto draftMirrorsSpec)) draftMirrorsUptoCard
end Rows
end Go.Proofs.YtfglcgbgaeegaaaGreatDoor
