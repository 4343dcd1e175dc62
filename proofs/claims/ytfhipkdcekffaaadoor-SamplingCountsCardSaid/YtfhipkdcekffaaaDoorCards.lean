/-
  DERIVED. GIVEN WITH THE SEED: THE CARDS: each row of YtfhipkdcekffaaaDoorRows.lean that lists a variable, with what it lists TIED to the program's text (the seventh form; the later family's looks); each row that meets fmt, with fmt's text TOLD by the authors' own Lean function (tested against real Go, not proved from fmt's source: count such statements apart). THE CARD IS WHAT COUNTS. Prove the row's statement (the work); the ties are given (YtfhipkdcekffaaaDoorTie.lean); close each card by the builder's one call (the guide's Derived/Test/ToyasCard.lean, 'card_holds'). Laid BY PROGRAM, IN A SANDBOX (cutbox-door.mjs). By AI agents, Wed Nov 11 2026. No macro, syntax, notation, axiom, sorry.
-/
import Derived.Test.YtfhipkdcekffaaaDoorRows
import GoSem.ClaimSeven
namespace Go.Proofs.YtfhipkdcekffaaaDoor
namespace Rows

/-- THE TIED CARD OF 'garmentlaw53.SamplingChecks'. -/
def samplingChecksCard : Claim7 := { stood := { row := samplingChecksRow, standIns := [], harness := (true, "238eb85b2122f81de772a2c8a84778a264d404e9163743c5c8acfa0cfd1c333c"), looks := false }, kinds := [], alts := [], laidByText := true, laidKinds := [.data, .data, .data], laidTests := true, laidLooks := .later }
def SamplingChecksCardSaid : Prop := Claim7.holds Tryd.pinned (.plain (OpenSpec.ofChange samplingChecksSpec)) samplingChecksCard

/-- THE TIED CARD OF 'garmentlaw53.SamplingDraws'. -/
def samplingDrawsCard : Claim7 := { stood := { row := samplingDrawsRow, standIns := [], harness := (true, "238eb85b2122f81de772a2c8a84778a264d404e9163743c5c8acfa0cfd1c333c"), looks := false }, kinds := [], alts := [], laidByText := true, laidKinds := [.data, .data, .data], laidTests := true, laidLooks := .later }
def SamplingDrawsCardSaid : Prop := Claim7.holds Tryd.pinned (.plain (OpenSpec.ofChange samplingDrawsSpec)) samplingDrawsCard

/-- THE TIED CARD OF 'garmentlaw53.SamplingSamples'. -/
def samplingSamplesCard : Claim7 := { stood := { row := samplingSamplesRow, standIns := [], harness := (true, "238eb85b2122f81de772a2c8a84778a264d404e9163743c5c8acfa0cfd1c333c"), looks := false }, kinds := [], alts := [], laidByText := true, laidKinds := [.data, .data, .data], laidTests := true, laidLooks := .later }
def SamplingSamplesCardSaid : Prop := Claim7.holds Tryd.pinned (.plain (OpenSpec.ofChange samplingSamplesSpec)) samplingSamplesCard

/-- THE TIED CARD OF 'garmentlaw53.SamplingMonotone'. -/
def samplingMonotoneCard : Claim7 := { stood := { row := samplingMonotoneRow, standIns := [], harness := (true, "238eb85b2122f81de772a2c8a84778a264d404e9163743c5c8acfa0cfd1c333c"), looks := false }, kinds := [], alts := [], laidByText := true, laidKinds := [.data, .data, .data], laidTests := true, laidLooks := .later }
def SamplingMonotoneCardSaid : Prop := Claim7.holds Tryd.pinned (.plain (OpenSpec.ofChange samplingMonotoneSpec)) samplingMonotoneCard

/-- THE TIED CARD OF 'garmentlaw53.SamplingExchange'. -/
def samplingExchangeCard : Claim7 := { stood := { row := samplingExchangeRow, standIns := [], harness := (true, "238eb85b2122f81de772a2c8a84778a264d404e9163743c5c8acfa0cfd1c333c"), looks := false }, kinds := [], alts := [], laidByText := true, laidKinds := [.data, .data, .data], laidTests := true, laidLooks := .later }
def SamplingExchangeCardSaid : Prop := Claim7.holds Tryd.pinned (.plain (OpenSpec.ofChange samplingExchangeSpec)) samplingExchangeCard

/-- THE TIED CARD OF 'garmentlaw53.SamplingCounts'. -/
def samplingCountsCard : Claim7 := { stood := { row := samplingCountsRow, standIns := [], harness := (true, "238eb85b2122f81de772a2c8a84778a264d404e9163743c5c8acfa0cfd1c333c"), looks := false }, kinds := [], alts := [], laidByText := true, laidKinds := [.data, .data, .data], laidTests := true, laidLooks := .later }
def SamplingCountsCardSaid : Prop := Claim7.holds Tryd.pinned (.plain (OpenSpec.ofChange samplingCountsSpec)) samplingCountsCard

/-- THE SECOND FORM's CARD OF 'garmentlaw53.SamplingChecks'. -/
def samplingChecksUptoCard : Claim7 := { stood := { row := samplingChecksUptoRow, standIns := [], harness := (true, "238eb85b2122f81de772a2c8a84778a264d404e9163743c5c8acfa0cfd1c333c"), looks := false }, kinds := [], alts := [], laidByText := true, laidKinds := [.data, .data, .data], laidTests := true, laidLooks := .later }
def SamplingChecksUptoCardSaid : Prop := Claim7.holds Tryd.pinned (.plain (OpenSpec.upto samplingChecksSpec)) samplingChecksUptoCard

/-- THE SECOND FORM's CARD OF 'garmentlaw53.SamplingDraws'. -/
def samplingDrawsUptoCard : Claim7 := { stood := { row := samplingDrawsUptoRow, standIns := [], harness := (true, "238eb85b2122f81de772a2c8a84778a264d404e9163743c5c8acfa0cfd1c333c"), looks := false }, kinds := [], alts := [], laidByText := true, laidKinds := [.data, .data, .data], laidTests := true, laidLooks := .later }
def SamplingDrawsUptoCardSaid : Prop := Claim7.holds Tryd.pinned (.plain (OpenSpec.upto samplingDrawsSpec)) samplingDrawsUptoCard

/-- THE SECOND FORM's CARD OF 'garmentlaw53.SamplingSamples'. -/
def samplingSamplesUptoCard : Claim7 := { stood := { row := samplingSamplesUptoRow, standIns := [], harness := (true, "238eb85b2122f81de772a2c8a84778a264d404e9163743c5c8acfa0cfd1c333c"), looks := false }, kinds := [], alts := [], laidByText := true, laidKinds := [.data, .data, .data], laidTests := true, laidLooks := .later }
def SamplingSamplesUptoCardSaid : Prop := Claim7.holds Tryd.pinned (.plain (OpenSpec.upto samplingSamplesSpec)) samplingSamplesUptoCard

/-- THE SECOND FORM's CARD OF 'garmentlaw53.SamplingMonotone'. -/
def samplingMonotoneUptoCard : Claim7 := { stood := { row := samplingMonotoneUptoRow, standIns := [], harness := (true, "238eb85b2122f81de772a2c8a84778a264d404e9163743c5c8acfa0cfd1c333c"), looks := false }, kinds := [], alts := [], laidByText := true, laidKinds := [.data, .data, .data], laidTests := true, laidLooks := .later }
def SamplingMonotoneUptoCardSaid : Prop := Claim7.holds Tryd.pinned (.plain (OpenSpec.upto samplingMonotoneSpec)) samplingMonotoneUptoCard

/-- THE SECOND FORM's CARD OF 'garmentlaw53.SamplingExchange'. -/
def samplingExchangeUptoCard : Claim7 := { stood := { row := samplingExchangeUptoRow, standIns := [], harness := (true, "238eb85b2122f81de772a2c8a84778a264d404e9163743c5c8acfa0cfd1c333c"), looks := false }, kinds := [], alts := [], laidByText := true, laidKinds := [.data, .data, .data], laidTests := true, laidLooks := .later }
def SamplingExchangeUptoCardSaid : Prop := Claim7.holds Tryd.pinned (.plain (OpenSpec.upto samplingExchangeSpec)) samplingExchangeUptoCard

/-- THE SECOND FORM's CARD OF 'garmentlaw53.SamplingCounts'. -/
def samplingCountsUptoCard : Claim7 := { stood := { row := samplingCountsUptoRow, standIns := [], harness := (true, "238eb85b2122f81de772a2c8a84778a264d404e9163743c5c8acfa0cfd1c333c"), looks := false }, kinds := [], alts := [], laidByText := true, laidKinds := [.data, .data, .data], laidTests := true, laidLooks := .later }
def SamplingCountsUptoCardSaid : Prop := Claim7.holds Tryd.pinned (.plain (OpenSpec.upto samplingCountsSpec)) samplingCountsUptoCard
end Rows
end Go.Proofs.YtfhipkdcekffaaaDoor
