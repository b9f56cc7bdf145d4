/-
  DERIVED. GIVEN WITH THE SEED: THE CARDS: each row of YtjhaldbohblieaaGreatDoorRows.lean that lists a variable, with what it lists TIED to the program's text (the seventh form; the later family's looks); each row that meets fmt, with fmt's text TOLD by the authors' own Lean function (tested against real Go, not proved from fmt's source: count such statements apart). THE CARD IS WHAT COUNTS. Prove the row's statement (the work); the ties are given (YtjhaldbohblieaaGreatDoorTie.lean); close each card by the builder's one call (the guide's Derived/Test/ToyasCard.lean, 'card_holds'). Laid BY PROGRAM, IN A SANDBOX (cutbox-door.mjs). By AI agents, Wed Nov 11 2026. No macro, syntax, notation, axiom, sorry.
-/
import Derived.Test.YtjhaldbohblieaaGreatDoorRows
import GoSem.ClaimSeven
namespace Go.Proofs.YtjhaldbohblieaaGreatDoor
namespace Rows

/-- THE TIED CARD OF 'frustumlaw28.LinkMatches'. -/
def linkMatchesCard : Claim7 := { stood := { row := linkMatchesRow, standIns := [], harness := (true, "00bdbc813e29b61f4d1857348f6d9554d130fcc8d23a1d12ee4d3fcfc6bc5b28"), looks := false }, kinds := [], alts := [], laidByText := true, laidKinds := [.widerDeep, .widerDeep, .widerDeep, .widerDeep], laidTests := true, laidLooks := .later }
def LinkMatchesCardSaid : Prop := Claim7.holds Tryz.pinned (.plain (OpenSpec.ofChange linkMatchesSpec)) linkMatchesCard

/-- THE TIED CARD OF 'frustumlaw28.LinkPipeline'. -/
def linkPipelineCard : Claim7 := { stood := { row := linkPipelineRow, standIns := [], harness := (true, "00bdbc813e29b61f4d1857348f6d9554d130fcc8d23a1d12ee4d3fcfc6bc5b28"), looks := false }, kinds := [], alts := [], laidByText := true, laidKinds := [.widerDeep, .widerDeep, .widerDeep, .widerDeep], laidTests := true, laidLooks := .later }
def LinkPipelineCardSaid : Prop := Claim7.holds Tryz.pinned (.plain (OpenSpec.ofChange linkPipelineSpec)) linkPipelineCard

/-- THE TIED CARD OF 'frustumlaw28.LinkComponents'. -/
def linkComponentsCard : Claim7 := { stood := { row := linkComponentsRow, standIns := [], harness := (true, "00bdbc813e29b61f4d1857348f6d9554d130fcc8d23a1d12ee4d3fcfc6bc5b28"), looks := false }, kinds := [], alts := [], laidByText := true, laidKinds := [.widerDeep, .widerDeep, .widerDeep, .widerDeep], laidTests := true, laidLooks := .later }
def LinkComponentsCardSaid : Prop := Claim7.holds Tryz.pinned (.plain (OpenSpec.ofChange linkComponentsSpec)) linkComponentsCard

/-- THE TIED CARD OF 'frustumlaw28.LinkEqualFields'. -/
def linkEqualFieldsCard : Claim7 := { stood := { row := linkEqualFieldsRow, standIns := [], harness := (true, "00bdbc813e29b61f4d1857348f6d9554d130fcc8d23a1d12ee4d3fcfc6bc5b28"), looks := false }, kinds := [], alts := [], laidByText := true, laidKinds := [.widerDeep, .widerDeep, .widerDeep, .widerDeep], laidTests := true, laidLooks := .later }
def LinkEqualFieldsCardSaid : Prop := Claim7.holds Tryz.pinned (.plain (OpenSpec.ofChange linkEqualFieldsSpec)) linkEqualFieldsCard

/-- THE TIED CARD OF 'frustumlaw28.LinkGeometryInputs'. -/
def linkGeometryInputsCard : Claim7 := { stood := { row := linkGeometryInputsRow, standIns := [], harness := (true, "00bdbc813e29b61f4d1857348f6d9554d130fcc8d23a1d12ee4d3fcfc6bc5b28"), looks := false }, kinds := [], alts := [], laidByText := true, laidKinds := [.widerDeep, .widerDeep, .widerDeep, .widerDeep], laidTests := true, laidLooks := .later }
def LinkGeometryInputsCardSaid : Prop := Claim7.holds Tryz.pinned (.plain (OpenSpec.ofChange linkGeometryInputsSpec)) linkGeometryInputsCard

/-- THE SECOND FORM's CARD OF 'frustumlaw28.LinkMatches'. -/
def linkMatchesUptoCard : Claim7 := { stood := { row := linkMatchesUptoRow, standIns := [], harness := (true, "00bdbc813e29b61f4d1857348f6d9554d130fcc8d23a1d12ee4d3fcfc6bc5b28"), looks := false }, kinds := [], alts := [], laidByText := true, laidKinds := [.widerDeep, .widerDeep, .widerDeep, .widerDeep], laidTests := true, laidLooks := .later }
def LinkMatchesUptoCardSaid : Prop := Claim7.holds Tryz.pinned (.plain (OpenSpec.upto linkMatchesSpec)) linkMatchesUptoCard

/-- THE SECOND FORM's CARD OF 'frustumlaw28.LinkPipeline'. -/
def linkPipelineUptoCard : Claim7 := { stood := { row := linkPipelineUptoRow, standIns := [], harness := (true, "00bdbc813e29b61f4d1857348f6d9554d130fcc8d23a1d12ee4d3fcfc6bc5b28"), looks := false }, kinds := [], alts := [], laidByText := true, laidKinds := [.widerDeep, .widerDeep, .widerDeep, .widerDeep], laidTests := true, laidLooks := .later }
def LinkPipelineUptoCardSaid : Prop := Claim7.holds Tryz.pinned (.plain (OpenSpec.upto linkPipelineSpec)) linkPipelineUptoCard

/-- THE SECOND FORM's CARD OF 'frustumlaw28.LinkComponents'. -/
def linkComponentsUptoCard : Claim7 := { stood := { row := linkComponentsUptoRow, standIns := [], harness := (true, "00bdbc813e29b61f4d1857348f6d9554d130fcc8d23a1d12ee4d3fcfc6bc5b28"), looks := false }, kinds := [], alts := [], laidByText := true, laidKinds := [.widerDeep, .widerDeep, .widerDeep, .widerDeep], laidTests := true, laidLooks := .later }
def LinkComponentsUptoCardSaid : Prop := Claim7.holds Tryz.pinned (.plain (OpenSpec.upto linkComponentsSpec)) linkComponentsUptoCard

/-- THE SECOND FORM's CARD OF 'frustumlaw28.LinkEqualFields'. -/
def linkEqualFieldsUptoCard : Claim7 := { stood := { row := linkEqualFieldsUptoRow, standIns := [], harness := (true, "00bdbc813e29b61f4d1857348f6d9554d130fcc8d23a1d12ee4d3fcfc6bc5b28"), looks := false }, kinds := [], alts := [], laidByText := true, laidKinds := [.widerDeep, .widerDeep, .widerDeep, .widerDeep], laidTests := true, laidLooks := .later }
def LinkEqualFieldsUptoCardSaid : Prop := Claim7.holds Tryz.pinned (.plain (OpenSpec.upto linkEqualFieldsSpec)) linkEqualFieldsUptoCard

/-- THE SECOND FORM's CARD OF 'frustumlaw28.LinkGeometryInputs'. -/
def linkGeometryInputsUptoCard : Claim7 := { stood := { row := linkGeometryInputsUptoRow, standIns := [], harness := (true, "00bdbc813e29b61f4d1857348f6d9554d130fcc8d23a1d12ee4d3fcfc6bc5b28"), looks := false }, kinds := [], alts := [], laidByText := true, laidKinds := [.widerDeep, .widerDeep, .widerDeep, .widerDeep], laidTests := true, laidLooks := .later }
def LinkGeometryInputsUptoCardSaid : Prop := Claim7.holds Tryz.pinned (.plain (OpenSpec.upto linkGeometryInputsSpec)) linkGeometryInputsUptoCard
end Rows
end Go.Proofs.YtjhaldbohblieaaGreatDoor
