/-
  DERIVED. GIVEN WITH THE SEED: THE CARDS: each row of YtefikcjiblkmgaaGreatDoorRows.lean that lists a variable, with what it lists TIED to the program's text (the seventh form; the later family's looks); each row that meets fmt, with fmt's text TOLD by the authors' own Lean function (tested against real Go, not proved from fmt's source: count such statements apart). THE CARD IS WHAT COUNTS. Prove the row's statement (the work); the ties are given (YtefikcjiblkmgaaGreatDoorTie.lean); close each card by the builder's one call (the guide's Derived/Test/ToyasCard.lean, 'card_holds'). Laid BY PROGRAM, IN A SANDBOX (cutbox-door.mjs). By AI agents, Wed Nov 11 2026. No macro, syntax, notation, axiom, sorry.
-/
import Derived.Test.YtefikcjiblkmgaaGreatDoorRows
import GoSem.ClaimSeven
namespace Go.Proofs.YtefikcjiblkmgaaGreatDoor
namespace Rows

/-- THE TIED CARD OF 'frustumlaw20.TypesExpressions'. -/
def typesExpressionsCard : Claim7 := { stood := { row := typesExpressionsRow, standIns := [], harness := (true, "8d516e5f401fb9ee8cc5e83cbd2c6a3df2619c4fa53c06b9c1244760beccca69"), looks := false }, kinds := [], alts := [], laidByText := true, laidKinds := [.widerDeep, .widerDeep, .widerDeep, .widerDeep], laidTests := true, laidLooks := .later }
def TypesExpressionsCardSaid : Prop := Claim7.holds Tryz.pinned (.plain (OpenSpec.ofChange typesExpressionsSpec)) typesExpressionsCard

/-- THE TIED CARD OF 'frustumlaw20.TypesWeight'. -/
def typesWeightCard : Claim7 := { stood := { row := typesWeightRow, standIns := [], harness := (true, "8d516e5f401fb9ee8cc5e83cbd2c6a3df2619c4fa53c06b9c1244760beccca69"), looks := false }, kinds := [], alts := [], laidByText := true, laidKinds := [.widerDeep, .widerDeep, .widerDeep, .widerDeep], laidTests := true, laidLooks := .later }
def TypesWeightCardSaid : Prop := Claim7.holds Tryz.pinned (.plain (OpenSpec.ofChange typesWeightSpec)) typesWeightCard

/-- THE TIED CARD OF 'frustumlaw20.TypesOperators'. -/
def typesOperatorsCard : Claim7 := { stood := { row := typesOperatorsRow, standIns := [], harness := (true, "8d516e5f401fb9ee8cc5e83cbd2c6a3df2619c4fa53c06b9c1244760beccca69"), looks := false }, kinds := [], alts := [], laidByText := true, laidKinds := [.widerDeep, .widerDeep, .widerDeep, .widerDeep], laidTests := true, laidLooks := .later }
def TypesOperatorsCardSaid : Prop := Claim7.holds Tryz.pinned (.plain (OpenSpec.ofChange typesOperatorsSpec)) typesOperatorsCard

/-- THE TIED CARD OF 'frustumlaw20.TypesScope'. -/
def typesScopeCard : Claim7 := { stood := { row := typesScopeRow, standIns := [], harness := (true, "8d516e5f401fb9ee8cc5e83cbd2c6a3df2619c4fa53c06b9c1244760beccca69"), looks := false }, kinds := [], alts := [], laidByText := true, laidKinds := [.widerDeep, .widerDeep, .widerDeep, .widerDeep], laidTests := true, laidLooks := .later }
def TypesScopeCardSaid : Prop := Claim7.holds Tryz.pinned (.plain (OpenSpec.ofChange typesScopeSpec)) typesScopeCard

/-- THE TIED CARD OF 'frustumlaw20.TypesPrefix'. -/
def typesPrefixCard : Claim7 := { stood := { row := typesPrefixRow, standIns := [], harness := (true, "8d516e5f401fb9ee8cc5e83cbd2c6a3df2619c4fa53c06b9c1244760beccca69"), looks := false }, kinds := [], alts := [], laidByText := true, laidKinds := [.widerDeep, .widerDeep, .widerDeep, .widerDeep], laidTests := true, laidLooks := .later }
def TypesPrefixCardSaid : Prop := Claim7.holds Tryz.pinned (.plain (OpenSpec.ofChange typesPrefixSpec)) typesPrefixCard

/-- THE TIED CARD OF 'frustumlaw20.TypesSizes'. -/
def typesSizesCard : Claim7 := { stood := { row := typesSizesRow, standIns := [], harness := (true, "8d516e5f401fb9ee8cc5e83cbd2c6a3df2619c4fa53c06b9c1244760beccca69"), looks := false }, kinds := [], alts := [], laidByText := true, laidKinds := [.widerDeep, .widerDeep, .widerDeep, .widerDeep], laidTests := true, laidLooks := .later }
def TypesSizesCardSaid : Prop := Claim7.holds Tryz.pinned (.plain (OpenSpec.ofChange typesSizesSpec)) typesSizesCard

/-- THE SECOND FORM's CARD OF 'frustumlaw20.TypesExpressions'. -/
def typesExpressionsUptoCard : Claim7 := { stood := { row := typesExpressionsUptoRow, standIns := [], harness := (true, "8d516e5f401fb9ee8cc5e83cbd2c6a3df2619c4fa53c06b9c1244760beccca69"), looks := false }, kinds := [], alts := [], laidByText := true, laidKinds := [.widerDeep, .widerDeep, .widerDeep, .widerDeep], laidTests := true, laidLooks := .later }
def TypesExpressionsUptoCardSaid : Prop := Claim7.holds Tryz.pinned (.plain (OpenSpec.upto typesExpressionsSpec)) typesExpressionsUptoCard

/-- THE SECOND FORM's CARD OF 'frustumlaw20.TypesWeight'. -/
def typesWeightUptoCard : Claim7 := { stood := { row := typesWeightUptoRow, standIns := [], harness := (true, "8d516e5f401fb9ee8cc5e83cbd2c6a3df2619c4fa53c06b9c1244760beccca69"), looks := false }, kinds := [], alts := [], laidByText := true, laidKinds := [.widerDeep, .widerDeep, .widerDeep, .widerDeep], laidTests := true, laidLooks := .later }
def TypesWeightUptoCardSaid : Prop := Claim7.holds Tryz.pinned (.plain (OpenSpec.upto typesWeightSpec)) typesWeightUptoCard

/-- THE SECOND FORM's CARD OF 'frustumlaw20.TypesOperators'. -/
def typesOperatorsUptoCard : Claim7 := { stood := { row := typesOperatorsUptoRow, standIns := [], harness := (true, "8d516e5f401fb9ee8cc5e83cbd2c6a3df2619c4fa53c06b9c1244760beccca69"), looks := false }, kinds := [], alts := [], laidByText := true, laidKinds := [.widerDeep, .widerDeep, .widerDeep, .widerDeep], laidTests := true, laidLooks := .later }
def TypesOperatorsUptoCardSaid : Prop := Claim7.holds Tryz.pinned (.plain (OpenSpec.upto typesOperatorsSpec)) typesOperatorsUptoCard

/-- THE SECOND FORM's CARD OF 'frustumlaw20.TypesScope'. -/
def typesScopeUptoCard : Claim7 := { stood := { row := typesScopeUptoRow, standIns := [], harness := (true, "8d516e5f401fb9ee8cc5e83cbd2c6a3df2619c4fa53c06b9c1244760beccca69"), looks := false }, kinds := [], alts := [], laidByText := true, laidKinds := [.widerDeep, .widerDeep, .widerDeep, .widerDeep], laidTests := true, laidLooks := .later }
def TypesScopeUptoCardSaid : Prop := Claim7.holds Tryz.pinned (.plain (OpenSpec.upto typesScopeSpec)) typesScopeUptoCard

/-- THE SECOND FORM's CARD OF 'frustumlaw20.TypesPrefix'. -/
def typesPrefixUptoCard : Claim7 := { stood := { row := typesPrefixUptoRow, standIns := [], harness := (true, "8d516e5f401fb9ee8cc5e83cbd2c6a3df2619c4fa53c06b9c1244760beccca69"), looks := false }, kinds := [], alts := [], laidByText := true, laidKinds := [.widerDeep, .widerDeep, .widerDeep, .widerDeep], laidTests := true, laidLooks := .later }
def TypesPrefixUptoCardSaid : Prop := Claim7.holds Tryz.pinned (.plain (OpenSpec.upto typesPrefixSpec)) typesPrefixUptoCard

/-- THE SECOND FORM's CARD OF 'frustumlaw20.TypesSizes'. -/
def typesSizesUptoCard : Claim7 := { stood := { row := typesSizesUptoRow, standIns := [], harness := (true, "8d516e5f401fb9ee8cc5e83cbd2c6a3df2619c4fa53c06b9c1244760beccca69"), looks := false }, kinds := [], alts := [], laidByText := true, laidKinds := [.widerDeep, .widerDeep, .widerDeep, .widerDeep], laidTests := true, laidLooks := .later }
def TypesSizesUptoCardSaid : Prop := Claim7.holds Tryz.pinned (.plain (OpenSpec.upto typesSizesSpec)) typesSizesUptoCard
end Rows
end Go.Proofs.YtefikcjiblkmgaaGreatDoor
