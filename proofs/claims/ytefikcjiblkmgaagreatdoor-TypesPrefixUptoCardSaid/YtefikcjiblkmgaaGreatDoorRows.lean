/-
  NARROWER THAN 'FOR EVERY INPUT', by the rows' own cells (each row's printed sentence says how): TypesExpressions: loops, laid · TypesWeight: loops, laid · TypesOperators: loops, laid · TypesScope: loops, laid · TypesPrefix: loops, laid · TypesSizes: loops, laid.
  DERIVED. THE GIVEN ROWS OF THIS SEAT. 6 by the template 'for every input the law returns true; each argument reads behind the call as it read before'; 0 by the template 'total and deterministic' (their statements: YtefikcjiblkmgaaGreatDoorTotals.lean).
  GIVEN WITH THE SEED: the statements are not yours to turn. If you find one false, say at which input.
  Laid BY PROGRAM, IN A SANDBOX (cutbox-rows.mjs): the forced cells as the released guide's own fill.sh prints them over the translation a9c98a864e584dfa… (all of the seat's roots in one cut). By AI agents, Wed Nov 11 2026. No macro, syntax, notation, axiom, sorry.
-/
import Derived.Test.YtefikcjiblkmgaaGreatDoorChecked
import GoSem.Claim
import GoSem.ClaimJoined
import GoSem.ClaimMapViews
import Derived.JoinedTies
import Derived.KernelRfl
namespace Go.Proofs.YtefikcjiblkmgaaGreatDoor
/- THE CELL 'sum', in the pinned program and in every row, IS THE sha256 OF THE DUMP (.gsa) THAT YtefikcjiblkmgaaGreatDoorProg.lean LOADS. Nothing in Lean hashes anything: it is a label: what it is worth is what the hold of that sum in a sandbox is worth. -/
noncomputable def Tryz.pinned : Pinned := { name := "ytefikcjiblkmgaagreatdoor", sum := "a9c98a864e584dfae5c2938a79bee16cf23b0ce3509db17b92248f2f889bf43a", checked := Tryz.checked }
namespace Rows
def none {H : Type} : Left H := { results := [], args := [] }

/- WHAT THE LISTED PACKAGE-LEVEL VARIABLES READ AS WHEN THE CALL BEGINS. Each datum BY PROGRAM (the guide's laid-datum.mjs) off the statement by which the dump's own 'gosem.cut.vars' lays the variable. In a bare row this is a premise. The card (YtefikcjiblkmgaaGreatDoorCards.lean) ties it to the program's text. -/
def laid_frustum_lexer_typeWords {H : Type} : DataW H := .slice [.lit (.string [102, 105, 120, 101, 100]), .lit (.string [104, 97, 108, 102]), .lit (.string [105, 110, 116]), .lit (.string [98, 111, 111, 108]), .lit (.string [118, 101, 99, 50]), .lit (.string [118, 101, 99, 51]), .lit (.string [118, 101, 99, 52])] []
def laid_frustum_lexer_otherWords {H : Type} : DataW H := .slice [.lit (.string [115, 104, 97, 100, 101, 114]), .lit (.string [118, 101, 114, 116, 101, 120]), .lit (.string [103, 101, 111, 109, 101, 116, 114, 121]), .lit (.string [102, 114, 97, 103, 109, 101, 110, 116]), .lit (.string [115, 116, 114, 117, 99, 116]), .lit (.string [117, 110, 105, 102, 111, 114, 109]), .lit (.string [116, 101, 120, 116, 117, 114, 101]), .lit (.string [98, 117, 102, 102, 101, 114]), .lit (.string [105, 110]), .lit (.string [111, 117, 116]), .lit (.string [102, 110]), .lit (.string [114, 101, 116, 117, 114, 110]), .lit (.string [109, 97, 105, 110]), .lit (.string [108, 101, 116]), .lit (.string [105, 102]), .lit (.string [101, 108, 115, 101]), .lit (.string [108, 111, 111, 112]), .lit (.string [98, 114, 101, 97, 107]), .lit (.string [99, 111, 110, 116, 105, 110, 117, 101]), .lit (.string [100, 105, 115, 99, 97, 114, 100]), .lit (.string [101, 109, 105, 116]), .lit (.string [99, 117, 116]), .lit (.string [116, 114, 117, 101]), .lit (.string [102, 97, 108, 115, 101])] []
def laid_frustum_types_builtins {H : Type} : DataW H := .slice [.lit (.string [109, 105, 110]), .lit (.string [109, 97, 120]), .lit (.string [99, 108, 97, 109, 112]), .lit (.string [97, 98, 115]), .lit (.string [102, 108, 111, 111, 114]), .lit (.string [102, 114, 97, 99, 116]), .lit (.string [115, 113, 114, 116]), .lit (.string [100, 111, 116]), .lit (.string [109, 105, 120]), .lit (.string [115, 97, 109, 112, 108, 101]), .lit (.string [102, 101, 116, 99, 104]), .lit (.string [108, 111, 97, 100]), .lit (.string [100, 100, 120]), .lit (.string [100, 100, 121])] []
def laid_frustum_types_words {H : Type} : DataW H := .slice [.lit (.string [102, 105, 120, 101, 100]), .lit (.string [104, 97, 108, 102]), .lit (.string [105, 110, 116]), .lit (.string [98, 111, 111, 108]), .lit (.string [118, 101, 99, 50]), .lit (.string [118, 101, 99, 51]), .lit (.string [118, 101, 99, 52])] []

/-- 'frustumlaw20.TypesExpressions': WHATEVER THE INPUT: true; the input reads as it did. -/
def typesExpressionsSpec : ChangeSpec := { name := "typesExpressions", fn := fun _ => fun
  | [d1, d2, d3] => { results := [.lit (.bool true)], args := [d1, d2, d3] }
  | _ => none }
def typesExpressionsRow : OpenClaim := { program := "ytefikcjiblkmgaagreatdoor", sum := "a9c98a864e584dfae5c2938a79bee16cf23b0ce3509db17b92248f2f889bf43a", func := "frustum/frustumlaw20.TypesExpressions", spec := "typesExpressions", unfollowed := true, recurses := true, named := ["frustum/types.words", "frustum/types.builtins", "frustum/lexer.otherWords", "frustum/lexer.typeWords"], loops := true, apart := false, laid := [("frustum/lexer.typeWords", laid_frustum_lexer_typeWords), ("frustum/lexer.otherWords", laid_frustum_lexer_otherWords), ("frustum/types.builtins", laid_frustum_types_builtins), ("frustum/types.words", laid_frustum_types_words)] }
def TypesExpressionsSaid : Prop := typesExpressionsRow.holds Tryz.pinned (OpenSpec.ofChange typesExpressionsSpec)

/-- ITS FALSE NEIGHBOUR: 'it returns false'. Refute it at one input. -/
def typesExpressionsWrong : ChangeSpec := { name := "typesExpressions", fn := fun _ => fun
  | [d1, d2, d3] => { results := [.lit (.bool false)], args := [d1, d2, d3] }
  | _ => none }
def TypesExpressionsWrongFalsely : Prop := typesExpressionsRow.holds Tryz.pinned (OpenSpec.ofChange typesExpressionsWrong)

/-- 'frustumlaw20.TypesWeight': WHATEVER THE INPUT: true; the input reads as it did. -/
def typesWeightSpec : ChangeSpec := { name := "typesWeight", fn := fun _ => fun
  | [d] => { results := [.lit (.bool true)], args := [d] }
  | _ => none }
def typesWeightRow : OpenClaim := { program := "ytefikcjiblkmgaagreatdoor", sum := "a9c98a864e584dfae5c2938a79bee16cf23b0ce3509db17b92248f2f889bf43a", func := "frustum/frustumlaw20.TypesWeight", spec := "typesWeight", unfollowed := true, recurses := true, named := ["frustum/types.words", "frustum/types.builtins", "frustum/lexer.otherWords", "frustum/lexer.typeWords"], loops := true, apart := false, laid := [("frustum/lexer.typeWords", laid_frustum_lexer_typeWords), ("frustum/lexer.otherWords", laid_frustum_lexer_otherWords), ("frustum/types.builtins", laid_frustum_types_builtins), ("frustum/types.words", laid_frustum_types_words)] }
def TypesWeightSaid : Prop := typesWeightRow.holds Tryz.pinned (OpenSpec.ofChange typesWeightSpec)

/-- ITS FALSE NEIGHBOUR: 'it returns false'. Refute it at one input. -/
def typesWeightWrong : ChangeSpec := { name := "typesWeight", fn := fun _ => fun
  | [d] => { results := [.lit (.bool false)], args := [d] }
  | _ => none }
def TypesWeightWrongFalsely : Prop := typesWeightRow.holds Tryz.pinned (OpenSpec.ofChange typesWeightWrong)

/-- 'frustumlaw20.TypesOperators': WHATEVER THE INPUT: true; the input reads as it did. -/
def typesOperatorsSpec : ChangeSpec := { name := "typesOperators", fn := fun _ => fun
  | [d1, d2, d3] => { results := [.lit (.bool true)], args := [d1, d2, d3] }
  | _ => none }
def typesOperatorsRow : OpenClaim := { program := "ytefikcjiblkmgaagreatdoor", sum := "a9c98a864e584dfae5c2938a79bee16cf23b0ce3509db17b92248f2f889bf43a", func := "frustum/frustumlaw20.TypesOperators", spec := "typesOperators", unfollowed := true, recurses := true, named := ["frustum/types.words", "frustum/types.builtins", "frustum/lexer.otherWords", "frustum/lexer.typeWords"], loops := true, apart := false, laid := [("frustum/lexer.typeWords", laid_frustum_lexer_typeWords), ("frustum/lexer.otherWords", laid_frustum_lexer_otherWords), ("frustum/types.builtins", laid_frustum_types_builtins), ("frustum/types.words", laid_frustum_types_words)] }
def TypesOperatorsSaid : Prop := typesOperatorsRow.holds Tryz.pinned (OpenSpec.ofChange typesOperatorsSpec)

/-- ITS FALSE NEIGHBOUR: 'it returns false'. Refute it at one input. -/
def typesOperatorsWrong : ChangeSpec := { name := "typesOperators", fn := fun _ => fun
  | [d1, d2, d3] => { results := [.lit (.bool false)], args := [d1, d2, d3] }
  | _ => none }
def TypesOperatorsWrongFalsely : Prop := typesOperatorsRow.holds Tryz.pinned (OpenSpec.ofChange typesOperatorsWrong)

/-- 'frustumlaw20.TypesScope': WHATEVER THE INPUT: true; the input reads as it did. -/
def typesScopeSpec : ChangeSpec := { name := "typesScope", fn := fun _ => fun
  | [d1, d2, d3] => { results := [.lit (.bool true)], args := [d1, d2, d3] }
  | _ => none }
def typesScopeRow : OpenClaim := { program := "ytefikcjiblkmgaagreatdoor", sum := "a9c98a864e584dfae5c2938a79bee16cf23b0ce3509db17b92248f2f889bf43a", func := "frustum/frustumlaw20.TypesScope", spec := "typesScope", unfollowed := true, recurses := true, named := ["frustum/types.words", "frustum/types.builtins", "frustum/lexer.otherWords", "frustum/lexer.typeWords"], loops := true, apart := false, laid := [("frustum/lexer.typeWords", laid_frustum_lexer_typeWords), ("frustum/lexer.otherWords", laid_frustum_lexer_otherWords), ("frustum/types.builtins", laid_frustum_types_builtins), ("frustum/types.words", laid_frustum_types_words)] }
def TypesScopeSaid : Prop := typesScopeRow.holds Tryz.pinned (OpenSpec.ofChange typesScopeSpec)

/-- ITS FALSE NEIGHBOUR: 'it returns false'. Refute it at one input. -/
def typesScopeWrong : ChangeSpec := { name := "typesScope", fn := fun _ => fun
  | [d1, d2, d3] => { results := [.lit (.bool false)], args := [d1, d2, d3] }
  | _ => none }
def TypesScopeWrongFalsely : Prop := typesScopeRow.holds Tryz.pinned (OpenSpec.ofChange typesScopeWrong)

/-- 'frustumlaw20.TypesPrefix': WHATEVER THE INPUT: true; the input reads as it did. -/
def typesPrefixSpec : ChangeSpec := { name := "typesPrefix", fn := fun _ => fun
  | [d] => { results := [.lit (.bool true)], args := [d] }
  | _ => none }
def typesPrefixRow : OpenClaim := { program := "ytefikcjiblkmgaagreatdoor", sum := "a9c98a864e584dfae5c2938a79bee16cf23b0ce3509db17b92248f2f889bf43a", func := "frustum/frustumlaw20.TypesPrefix", spec := "typesPrefix", unfollowed := true, recurses := true, named := ["frustum/lexer.otherWords", "frustum/lexer.typeWords", "frustum/types.builtins", "frustum/types.words"], loops := true, apart := false, laid := [("frustum/lexer.typeWords", laid_frustum_lexer_typeWords), ("frustum/lexer.otherWords", laid_frustum_lexer_otherWords), ("frustum/types.builtins", laid_frustum_types_builtins), ("frustum/types.words", laid_frustum_types_words)] }
def TypesPrefixSaid : Prop := typesPrefixRow.holds Tryz.pinned (OpenSpec.ofChange typesPrefixSpec)

/-- ITS FALSE NEIGHBOUR: 'it returns false'. Refute it at one input. -/
def typesPrefixWrong : ChangeSpec := { name := "typesPrefix", fn := fun _ => fun
  | [d] => { results := [.lit (.bool false)], args := [d] }
  | _ => none }
def TypesPrefixWrongFalsely : Prop := typesPrefixRow.holds Tryz.pinned (OpenSpec.ofChange typesPrefixWrong)

/-- 'frustumlaw20.TypesSizes': WHATEVER THE INPUT: true; the input reads as it did. -/
def typesSizesSpec : ChangeSpec := { name := "typesSizes", fn := fun _ => fun
  | [d1, d2, d3] => { results := [.lit (.bool true)], args := [d1, d2, d3] }
  | _ => none }
def typesSizesRow : OpenClaim := { program := "ytefikcjiblkmgaagreatdoor", sum := "a9c98a864e584dfae5c2938a79bee16cf23b0ce3509db17b92248f2f889bf43a", func := "frustum/frustumlaw20.TypesSizes", spec := "typesSizes", unfollowed := true, recurses := true, named := ["frustum/types.words", "frustum/types.builtins", "frustum/lexer.otherWords", "frustum/lexer.typeWords"], loops := true, apart := false, laid := [("frustum/lexer.typeWords", laid_frustum_lexer_typeWords), ("frustum/lexer.otherWords", laid_frustum_lexer_otherWords), ("frustum/types.builtins", laid_frustum_types_builtins), ("frustum/types.words", laid_frustum_types_words)] }
def TypesSizesSaid : Prop := typesSizesRow.holds Tryz.pinned (OpenSpec.ofChange typesSizesSpec)

/-- ITS FALSE NEIGHBOUR: 'it returns false'. Refute it at one input. -/
def typesSizesWrong : ChangeSpec := { name := "typesSizes", fn := fun _ => fun
  | [d1, d2, d3] => { results := [.lit (.bool false)], args := [d1, d2, d3] }
  | _ => none }
def TypesSizesWrongFalsely : Prop := typesSizesRow.holds Tryz.pinned (OpenSpec.ofChange typesSizesWrong)

/- THE SECOND FORM. 'bulk': how many values and letters a reading holds, each counted each time it is reached (what is shared counts as often as it is met; a slice's spare places count too). A statement '..UptoSaid' is the law's where the arguments, and the package variables that the reading takes, are together of bulk at most 1048576: NARROWER than '..Said'. Prove '..Said' where nothing that the law and all that it calls make is longer than what came in: it says more and counts as full. Else prove '..UptoSaid'. A law counts once. -/
mutual
def uptoBulk {H : Type} : DataW H → Nat
  | .lit (.string bytes) => bytes.length + 1
  | .lit _ => 1
  | .nil => 1
  | .ptr d => uptoBulk d + 1
  | .slice elems spare => uptoBulkAll elems + uptoBulkAll spare + 1
  | .agg parts => uptoBulkAll parts + 1
  | .iface _ d => uptoBulk d + 1
  | .map entries => uptoBulkEntries entries + 1
  | .held _ => 1
def uptoBulkAll {H : Type} : List (DataW H) → Nat
  | [] => 0
  | d :: r => uptoBulk d + uptoBulkAll r
def uptoBulkEntries {H : Type} : List (Lit × DataW H) → Nat
  | [] => 0
  | x :: r => uptoBulkEntry x + uptoBulkEntries r
def uptoBulkEntry {H : Type} : Lit × DataW H → Nat
  | (.string bytes, d) => bytes.length + uptoBulk d + 1
  | (_, d) => uptoBulk d + 1
 end
def uptoSmall : (H : Type) → List (DataW H) → Bool := fun _ ds => decide (uptoBulkAll ds ≤ 1048576)
def OpenSpec.upto (s : _root_.Go.ChangeSpec) : _root_.Go.OpenSpec := { _root_.Go.OpenSpec.ofChange s with cond := some uptoSmall }

/-- 'frustumlaw20.TypesExpressions', WHERE WHAT IT READS IS OF BULK AT MOST 1048576: true; the input reads as it did. -/
def typesExpressionsUptoRow : OpenClaim := { program := "ytefikcjiblkmgaagreatdoor", sum := "a9c98a864e584dfae5c2938a79bee16cf23b0ce3509db17b92248f2f889bf43a", func := "frustum/frustumlaw20.TypesExpressions", spec := "typesExpressions", unfollowed := true, recurses := true, named := ["frustum/types.words", "frustum/types.builtins", "frustum/lexer.otherWords", "frustum/lexer.typeWords"], loops := true, apart := false, laid := [("frustum/lexer.typeWords", laid_frustum_lexer_typeWords), ("frustum/lexer.otherWords", laid_frustum_lexer_otherWords), ("frustum/types.builtins", laid_frustum_types_builtins), ("frustum/types.words", laid_frustum_types_words)], narrowed := true }
def TypesExpressionsUptoSaid : Prop := typesExpressionsUptoRow.holds Tryz.pinned (OpenSpec.upto typesExpressionsSpec)

/-- 'frustumlaw20.TypesWeight', WHERE WHAT IT READS IS OF BULK AT MOST 1048576: true; the input reads as it did. -/
def typesWeightUptoRow : OpenClaim := { program := "ytefikcjiblkmgaagreatdoor", sum := "a9c98a864e584dfae5c2938a79bee16cf23b0ce3509db17b92248f2f889bf43a", func := "frustum/frustumlaw20.TypesWeight", spec := "typesWeight", unfollowed := true, recurses := true, named := ["frustum/types.words", "frustum/types.builtins", "frustum/lexer.otherWords", "frustum/lexer.typeWords"], loops := true, apart := false, laid := [("frustum/lexer.typeWords", laid_frustum_lexer_typeWords), ("frustum/lexer.otherWords", laid_frustum_lexer_otherWords), ("frustum/types.builtins", laid_frustum_types_builtins), ("frustum/types.words", laid_frustum_types_words)], narrowed := true }
def TypesWeightUptoSaid : Prop := typesWeightUptoRow.holds Tryz.pinned (OpenSpec.upto typesWeightSpec)

/-- 'frustumlaw20.TypesOperators', WHERE WHAT IT READS IS OF BULK AT MOST 1048576: true; the input reads as it did. -/
def typesOperatorsUptoRow : OpenClaim := { program := "ytefikcjiblkmgaagreatdoor", sum := "a9c98a864e584dfae5c2938a79bee16cf23b0ce3509db17b92248f2f889bf43a", func := "frustum/frustumlaw20.TypesOperators", spec := "typesOperators", unfollowed := true, recurses := true, named := ["frustum/types.words", "frustum/types.builtins", "frustum/lexer.otherWords", "frustum/lexer.typeWords"], loops := true, apart := false, laid := [("frustum/lexer.typeWords", laid_frustum_lexer_typeWords), ("frustum/lexer.otherWords", laid_frustum_lexer_otherWords), ("frustum/types.builtins", laid_frustum_types_builtins), ("frustum/types.words", laid_frustum_types_words)], narrowed := true }
def TypesOperatorsUptoSaid : Prop := typesOperatorsUptoRow.holds Tryz.pinned (OpenSpec.upto typesOperatorsSpec)

/-- 'frustumlaw20.TypesScope', WHERE WHAT IT READS IS OF BULK AT MOST 1048576: true; the input reads as it did. -/
def typesScopeUptoRow : OpenClaim := { program := "ytefikcjiblkmgaagreatdoor", sum := "a9c98a864e584dfae5c2938a79bee16cf23b0ce3509db17b92248f2f889bf43a", func := "frustum/frustumlaw20.TypesScope", spec := "typesScope", unfollowed := true, recurses := true, named := ["frustum/types.words", "frustum/types.builtins", "frustum/lexer.otherWords", "frustum/lexer.typeWords"], loops := true, apart := false, laid := [("frustum/lexer.typeWords", laid_frustum_lexer_typeWords), ("frustum/lexer.otherWords", laid_frustum_lexer_otherWords), ("frustum/types.builtins", laid_frustum_types_builtins), ("frustum/types.words", laid_frustum_types_words)], narrowed := true }
def TypesScopeUptoSaid : Prop := typesScopeUptoRow.holds Tryz.pinned (OpenSpec.upto typesScopeSpec)

/-- 'frustumlaw20.TypesPrefix', WHERE WHAT IT READS IS OF BULK AT MOST 1048576: true; the input reads as it did. -/
def typesPrefixUptoRow : OpenClaim := { program := "ytefikcjiblkmgaagreatdoor", sum := "a9c98a864e584dfae5c2938a79bee16cf23b0ce3509db17b92248f2f889bf43a", func := "frustum/frustumlaw20.TypesPrefix", spec := "typesPrefix", unfollowed := true, recurses := true, named := ["frustum/lexer.otherWords", "frustum/lexer.typeWords", "frustum/types.builtins", "frustum/types.words"], loops := true, apart := false, laid := [("frustum/lexer.typeWords", laid_frustum_lexer_typeWords), ("frustum/lexer.otherWords", laid_frustum_lexer_otherWords), ("frustum/types.builtins", laid_frustum_types_builtins), ("frustum/types.words", laid_frustum_types_words)], narrowed := true }
def TypesPrefixUptoSaid : Prop := typesPrefixUptoRow.holds Tryz.pinned (OpenSpec.upto typesPrefixSpec)

/-- 'frustumlaw20.TypesSizes', WHERE WHAT IT READS IS OF BULK AT MOST 1048576: true; the input reads as it did. -/
def typesSizesUptoRow : OpenClaim := { program := "ytefikcjiblkmgaagreatdoor", sum := "a9c98a864e584dfae5c2938a79bee16cf23b0ce3509db17b92248f2f889bf43a", func := "frustum/frustumlaw20.TypesSizes", spec := "typesSizes", unfollowed := true, recurses := true, named := ["frustum/types.words", "frustum/types.builtins", "frustum/lexer.otherWords", "frustum/lexer.typeWords"], loops := true, apart := false, laid := [("frustum/lexer.typeWords", laid_frustum_lexer_typeWords), ("frustum/lexer.otherWords", laid_frustum_lexer_otherWords), ("frustum/types.builtins", laid_frustum_types_builtins), ("frustum/types.words", laid_frustum_types_words)], narrowed := true }
def TypesSizesUptoSaid : Prop := typesSizesUptoRow.holds Tryz.pinned (OpenSpec.upto typesSizesSpec)

end Rows
end Go.Proofs.YtefikcjiblkmgaaGreatDoor
