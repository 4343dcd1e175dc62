/-
  DERIVED. GIVEN WITH THE SEED: THE CARDS: each row of YtfhipkdcekffaaaGreatDoorRows.lean that lists a variable, with what it lists TIED to the program's text (the seventh form; the later family's looks); each row that meets fmt, with fmt's text TOLD by the authors' own Lean function (tested against real Go, not proved from fmt's source: count such statements apart). THE CARD IS WHAT COUNTS. Prove the row's statement (the work); the ties are given (YtfhipkdcekffaaaGreatDoorTie.lean); close each card by the builder's one call (the guide's Derived/Test/ToyasCard.lean, 'card_holds'). Laid BY PROGRAM, IN A SANDBOX (cutbox-door.mjs). By AI agents, Wed Nov 11 2026. No macro, syntax, notation, axiom, sorry.
-/
import Derived.Test.YtfhipkdcekffaaaGreatDoorRows
import GoSem.ClaimSeven
namespace Go.Proofs.YtfhipkdcekffaaaGreatDoor
namespace Rows

/-- THE TIED CARD OF 'garmentlaw53.SamplingExactly'. -/
def samplingExactlyCard : Claim7 := { stood := { row := samplingExactlyRow, standIns := [], harness := (true, "5a217e43b494170f793298d94bccd1e5036165bae830ad71ca34ba67fff41670"), looks := false }, kinds := [], alts := [], laidByText := true, laidKinds := [.data, .data, .data], laidTests := true, laidLooks := .later }
def SamplingExactlyCardSaid : Prop := Claim7.holds Tryz.pinned (.plain (OpenSpec.ofChange samplingExactlySpec)) samplingExactlyCard

/-- THE TIED CARD OF 'garmentlaw53.SamplingSums'. -/
def samplingSumsCard : Claim7 := { stood := { row := samplingSumsRow, standIns := [], harness := (true, "5a217e43b494170f793298d94bccd1e5036165bae830ad71ca34ba67fff41670"), looks := false }, kinds := [], alts := [], laidByText := true, laidKinds := [.data, .data, .data], laidTests := true, laidLooks := .later }
def SamplingSumsCardSaid : Prop := Claim7.holds Tryz.pinned (.plain (OpenSpec.ofChange samplingSumsSpec)) samplingSumsCard

/-- THE TIED CARD OF 'garmentlaw53.SamplingMean'. -/
def samplingMeanCard : Claim7 := { stood := { row := samplingMeanRow, standIns := [], harness := (true, "5a217e43b494170f793298d94bccd1e5036165bae830ad71ca34ba67fff41670"), looks := false }, kinds := [], alts := [], laidByText := true, laidKinds := [.data, .data, .data], laidTests := true, laidLooks := .later }
def SamplingMeanCardSaid : Prop := Claim7.holds Tryz.pinned (.plain (OpenSpec.ofChange samplingMeanSpec)) samplingMeanCard

/-- THE SECOND FORM's CARD OF 'garmentlaw53.SamplingExactly'. -/
def samplingExactlyUptoCard : Claim7 := { stood := { row := samplingExactlyUptoRow, standIns := [], harness := (true, "5a217e43b494170f793298d94bccd1e5036165bae830ad71ca34ba67fff41670"), looks := false }, kinds := [], alts := [], laidByText := true, laidKinds := [.data, .data, .data], laidTests := true, laidLooks := .later }
def SamplingExactlyUptoCardSaid : Prop := Claim7.holds Tryz.pinned (.plain (OpenSpec.upto samplingExactlySpec)) samplingExactlyUptoCard

/-- THE SECOND FORM's CARD OF 'garmentlaw53.SamplingSums'. -/
def samplingSumsUptoCard : Claim7 := { stood := { row := samplingSumsUptoRow, standIns := [], harness := (true, "5a217e43b494170f793298d94bccd1e5036165bae830ad71ca34ba67fff41670"), looks := false }, kinds := [], alts := [], laidByText := true, laidKinds := [.data, .data, .data], laidTests := true, laidLooks := .later }
def SamplingSumsUptoCardSaid : Prop := Claim7.holds Tryz.pinned (.plain (OpenSpec.upto samplingSumsSpec)) samplingSumsUptoCard

/-- THE SECOND FORM's CARD OF 'garmentlaw53.SamplingMean'. -/
def samplingMeanUptoCard : Claim7 := { stood := { row := samplingMeanUptoRow, standIns := [], harness := (true, "5a217e43b494170f793298d94bccd1e5036165bae830ad71ca34ba67fff41670"), looks := false }, kinds := [], alts := [], laidByText := true, laidKinds := [.data, .data, .data], laidTests := true, laidLooks := .later }
def SamplingMeanUptoCardSaid : Prop := Claim7.holds Tryz.pinned (.plain (OpenSpec.upto samplingMeanSpec)) samplingMeanUptoCard
end Rows
end Go.Proofs.YtfhipkdcekffaaaGreatDoor
