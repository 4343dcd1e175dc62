/-
  DERIVED. GIVEN WITH THE SEED: THE CARDS: each row of YtdpdaphholileaaGreatDoorRows.lean that lists a variable, with what it lists TIED to the program's text (the seventh form; the later family's looks); each row that meets fmt, with fmt's text TOLD by the authors' own Lean function (tested against real Go, not proved from fmt's source: count such statements apart). THE CARD IS WHAT COUNTS. Prove the row's statement (the work); the ties are given (YtdpdaphholileaaGreatDoorTie.lean); close each card by the builder's one call (the guide's Derived/Test/ToyasCard.lean, 'card_holds'). Laid BY PROGRAM, IN A SANDBOX (cutbox-door.mjs). By AI agents, Wed Nov 11 2026. No macro, syntax, notation, axiom, sorry.
-/
import Derived.Test.YtdpdaphholileaaGreatDoorRows
import GoSem.ClaimSeven
namespace Go.Proofs.YtdpdaphholileaaGreatDoor
namespace Rows

/-- THE TIED CARD OF 'garmentlaw17.FormulaChecks'. -/
def formulaChecksCard : Claim7 := { stood := { row := formulaChecksRow, standIns := [], harness := (true, "1d4c01088442842a1f11a83709b23992834e08ff4ee64280bcab428d81792ec3"), looks := true }, kinds := [], alts := [], laidByText := true, laidKinds := [.data, .data, .data, .data, .sentinel, .sentinel, .pinned], laidTests := true, laidLooks := .later }
def FormulaChecksCardSaid : Prop := Claim7.holds Tryz.pinned (.plain (OpenSpec.ofChange formulaChecksSpec)) formulaChecksCard

/-- THE TIED CARD OF 'garmentlaw17.FormulaParses'. -/
def formulaParsesCard : Claim7 := { stood := { row := formulaParsesRow, standIns := [], harness := (true, "1d4c01088442842a1f11a83709b23992834e08ff4ee64280bcab428d81792ec3"), looks := true }, kinds := [], alts := [], laidByText := true, laidKinds := [.data, .data, .data, .data, .sentinel, .sentinel, .pinned], laidTests := true, laidLooks := .later }
def FormulaParsesCardSaid : Prop := Claim7.holds Tryz.pinned (.plain (OpenSpec.ofChange formulaParsesSpec)) formulaParsesCard

/-- THE TIED CARD OF 'garmentlaw17.FormulaPrints'. -/
def formulaPrintsCard : Claim7 := { stood := { row := formulaPrintsRow, standIns := [], harness := (true, "1d4c01088442842a1f11a83709b23992834e08ff4ee64280bcab428d81792ec3"), looks := true }, kinds := [], alts := [], laidByText := true, laidKinds := [.data, .data, .data, .data, .sentinel, .sentinel, .pinned], laidTests := true, laidLooks := .later }
def FormulaPrintsCardSaid : Prop := Claim7.holds Tryz.pinned (.plain (OpenSpec.ofChange formulaPrintsSpec)) formulaPrintsCard

/-- THE TIED CARD OF 'garmentlaw17.FormulaEvals'. -/
def formulaEvalsCard : Claim7 := { stood := { row := formulaEvalsRow, standIns := [], harness := (true, "1d4c01088442842a1f11a83709b23992834e08ff4ee64280bcab428d81792ec3"), looks := true }, kinds := [], alts := [], laidByText := true, laidKinds := [.data, .data, .data, .data, .sentinel, .sentinel, .pinned], laidTests := true, laidLooks := .later }
def FormulaEvalsCardSaid : Prop := Claim7.holds Tryz.pinned (.plain (OpenSpec.ofChange formulaEvalsSpec)) formulaEvalsCard

/-- THE TIED CARD OF 'garmentlaw17.FormulaRoundTrip'. -/
def formulaRoundTripCard : Claim7 := { stood := { row := formulaRoundTripRow, standIns := [], harness := (true, "1d4c01088442842a1f11a83709b23992834e08ff4ee64280bcab428d81792ec3"), looks := true }, kinds := [], alts := [], laidByText := true, laidKinds := [.data, .data, .data, .data, .sentinel, .sentinel, .pinned], laidTests := true, laidLooks := .later }
def FormulaRoundTripCardSaid : Prop := Claim7.holds Tryz.pinned (.plain (OpenSpec.ofChange formulaRoundTripSpec)) formulaRoundTripCard

/-- THE TIED CARD OF 'garmentlaw17.FormulaSpaces'. -/
def formulaSpacesCard : Claim7 := { stood := { row := formulaSpacesRow, standIns := [], harness := (true, "1d4c01088442842a1f11a83709b23992834e08ff4ee64280bcab428d81792ec3"), looks := true }, kinds := [], alts := [], laidByText := true, laidKinds := [.data, .data, .data, .data, .sentinel, .sentinel, .pinned], laidTests := true, laidLooks := .later }
def FormulaSpacesCardSaid : Prop := Claim7.holds Tryz.pinned (.plain (OpenSpec.ofChange formulaSpacesSpec)) formulaSpacesCard

/-- THE TIED CARD OF 'garmentlaw17.FormulaComposes'. -/
def formulaComposesCard : Claim7 := { stood := { row := formulaComposesRow, standIns := [], harness := (true, "1d4c01088442842a1f11a83709b23992834e08ff4ee64280bcab428d81792ec3"), looks := true }, kinds := [], alts := [], laidByText := true, laidKinds := [.data, .data, .data, .data, .sentinel, .sentinel, .pinned], laidTests := true, laidLooks := .later }
def FormulaComposesCardSaid : Prop := Claim7.holds Tryz.pinned (.plain (OpenSpec.ofChange formulaComposesSpec)) formulaComposesCard

/-- THE TIED CARD OF 'garmentlaw17.FormulaNames'. -/
def formulaNamesCard : Claim7 := { stood := { row := formulaNamesRow, standIns := [], harness := (true, "1d4c01088442842a1f11a83709b23992834e08ff4ee64280bcab428d81792ec3"), looks := true }, kinds := [], alts := [], laidByText := true, laidKinds := [.data, .data, .data, .data, .sentinel, .sentinel, .pinned], laidTests := true, laidLooks := .later }
def FormulaNamesCardSaid : Prop := Claim7.holds Tryz.pinned (.plain (OpenSpec.ofChange formulaNamesSpec)) formulaNamesCard

/-- THE SECOND FORM's CARD OF 'garmentlaw17.FormulaChecks'. -/
def formulaChecksUptoCard : Claim7 := { stood := { row := formulaChecksUptoRow, standIns := [], harness := (true, "1d4c01088442842a1f11a83709b23992834e08ff4ee64280bcab428d81792ec3"), looks := true }, kinds := [], alts := [], laidByText := true, laidKinds := [.data, .data, .data, .data, .sentinel, .sentinel, .pinned], laidTests := true, laidLooks := .later }
def FormulaChecksUptoCardSaid : Prop := Claim7.holds Tryz.pinned (.plain (OpenSpec.upto formulaChecksSpec)) formulaChecksUptoCard

/-- THE SECOND FORM's CARD OF 'garmentlaw17.FormulaParses'. -/
def formulaParsesUptoCard : Claim7 := { stood := { row := formulaParsesUptoRow, standIns := [], harness := (true, "1d4c01088442842a1f11a83709b23992834e08ff4ee64280bcab428d81792ec3"), looks := true }, kinds := [], alts := [], laidByText := true, laidKinds := [.data, .data, .data, .data, .sentinel, .sentinel, .pinned], laidTests := true, laidLooks := .later }
def FormulaParsesUptoCardSaid : Prop := Claim7.holds Tryz.pinned (.plain (OpenSpec.upto formulaParsesSpec)) formulaParsesUptoCard

/-- THE SECOND FORM's CARD OF 'garmentlaw17.FormulaPrints'. -/
def formulaPrintsUptoCard : Claim7 := { stood := { row := formulaPrintsUptoRow, standIns := [], harness := (true, "1d4c01088442842a1f11a83709b23992834e08ff4ee64280bcab428d81792ec3"), looks := true }, kinds := [], alts := [], laidByText := true, laidKinds := [.data, .data, .data, .data, .sentinel, .sentinel, .pinned], laidTests := true, laidLooks := .later }
def FormulaPrintsUptoCardSaid : Prop := Claim7.holds Tryz.pinned (.plain (OpenSpec.upto formulaPrintsSpec)) formulaPrintsUptoCard

/-- THE SECOND FORM's CARD OF 'garmentlaw17.FormulaEvals'. -/
def formulaEvalsUptoCard : Claim7 := { stood := { row := formulaEvalsUptoRow, standIns := [], harness := (true, "1d4c01088442842a1f11a83709b23992834e08ff4ee64280bcab428d81792ec3"), looks := true }, kinds := [], alts := [], laidByText := true, laidKinds := [.data, .data, .data, .data, .sentinel, .sentinel, .pinned], laidTests := true, laidLooks := .later }
def FormulaEvalsUptoCardSaid : Prop := Claim7.holds Tryz.pinned (.plain (OpenSpec.upto formulaEvalsSpec)) formulaEvalsUptoCard

/-- THE SECOND FORM's CARD OF 'garmentlaw17.FormulaRoundTrip'. -/
def formulaRoundTripUptoCard : Claim7 := { stood := { row := formulaRoundTripUptoRow, standIns := [], harness := (true, "1d4c01088442842a1f11a83709b23992834e08ff4ee64280bcab428d81792ec3"), looks := true }, kinds := [], alts := [], laidByText := true, laidKinds := [.data, .data, .data, .data, .sentinel, .sentinel, .pinned], laidTests := true, laidLooks := .later }
def FormulaRoundTripUptoCardSaid : Prop := Claim7.holds Tryz.pinned (.plain (OpenSpec.upto formulaRoundTripSpec)) formulaRoundTripUptoCard

/-- THE SECOND FORM's CARD OF 'garmentlaw17.FormulaSpaces'. -/
def formulaSpacesUptoCard : Claim7 := { stood := { row := formulaSpacesUptoRow, standIns := [], harness := (true, "1d4c01088442842a1f11a83709b23992834e08ff4ee64280bcab428d81792ec3"), looks := true }, kinds := [], alts := [], laidByText := true, laidKinds := [.data, .data, .data, .data, .sentinel, .sentinel, .pinned], laidTests := true, laidLooks := .later }
def FormulaSpacesUptoCardSaid : Prop := Claim7.holds Tryz.pinned (.plain (OpenSpec.upto formulaSpacesSpec)) formulaSpacesUptoCard

/-- THE SECOND FORM's CARD OF 'garmentlaw17.FormulaComposes'. -/
def formulaComposesUptoCard : Claim7 := { stood := { row := formulaComposesUptoRow, standIns := [], harness := (true, "1d4c01088442842a1f11a83709b23992834e08ff4ee64280bcab428d81792ec3"), looks := true }, kinds := [], alts := [], laidByText := true, laidKinds := [.data, .data, .data, .data, .sentinel, .sentinel, .pinned], laidTests := true, laidLooks := .later }
def FormulaComposesUptoCardSaid : Prop := Claim7.holds Tryz.pinned (.plain (OpenSpec.upto formulaComposesSpec)) formulaComposesUptoCard

/-- THE SECOND FORM's CARD OF 'garmentlaw17.FormulaNames'. -/
def formulaNamesUptoCard : Claim7 := { stood := { row := formulaNamesUptoRow, standIns := [], harness := (true, "1d4c01088442842a1f11a83709b23992834e08ff4ee64280bcab428d81792ec3"), looks := true }, kinds := [], alts := [], laidByText := true, laidKinds := [.data, .data, .data, .data, .sentinel, .sentinel, .pinned], laidTests := true, laidLooks := .later }
def FormulaNamesUptoCardSaid : Prop := Claim7.holds Tryz.pinned (.plain (OpenSpec.upto formulaNamesSpec)) formulaNamesUptoCard
end Rows
end Go.Proofs.YtdpdaphholileaaGreatDoor
