/-
  NARROWER THAN 'FOR EVERY INPUT', by the rows' own cells (each row's printed sentence says how): LinkMatches: loops, laid · LinkPipeline: loops, laid · LinkComponents: loops, laid · LinkEqualFields: loops, laid · LinkGeometryInputs: loops, laid.
  DERIVED. THE GIVEN ROWS OF THIS SEAT. 5 by the template 'for every input the law returns true; each argument reads behind the call as it read before'; 0 by the template 'total and deterministic' (their statements: YtjhaldbohblieaaGreatDoorTotals.lean).
  GIVEN WITH THE SEED: the statements are not yours to turn. If you find one false, say at which input.
  Laid BY PROGRAM, IN A SANDBOX (cutbox-rows.mjs): the forced cells as the released guide's own fill.sh prints them over the translation 4807ebcd473cb53d… (all of the seat's roots in one cut). By AI agents, Wed Nov 11 2026. No macro, syntax, notation, axiom, sorry.
-/
import Derived.Test.YtjhaldbohblieaaGreatDoorChecked
import GoSem.Claim
import GoSem.ClaimJoined
import GoSem.ClaimMapViews
import Derived.JoinedTies
import Derived.KernelRfl
namespace Go.Proofs.YtjhaldbohblieaaGreatDoor
/- THE CELL 'sum', in the pinned program and in every row, IS THE sha256 OF THE DUMP (.gsa) THAT YtjhaldbohblieaaGreatDoorProg.lean LOADS. Nothing in Lean hashes anything: it is a label: what it is worth is what the hold of that sum in a sandbox is worth. -/
noncomputable def Tryz.pinned : Pinned := { name := "ytjhaldbohblieaagreatdoor", sum := "4807ebcd473cb53d0ddf67ecd705a38c8dd0352f495ab545b70957f29c6b0d2e", checked := Tryz.checked }
namespace Rows
def none {H : Type} : Left H := { results := [], args := [] }

/- WHAT THE LISTED PACKAGE-LEVEL VARIABLES READ AS WHEN THE CALL BEGINS. Each datum BY PROGRAM (the guide's laid-datum.mjs) off the statement by which the dump's own 'gosem.cut.vars' lays the variable. In a bare row this is a premise. The card (YtjhaldbohblieaaGreatDoorCards.lean) ties it to the program's text. -/
def laid_frustum_lexer_typeWords {H : Type} : DataW H := .slice [.lit (.string [102, 105, 120, 101, 100]), .lit (.string [104, 97, 108, 102]), .lit (.string [105, 110, 116]), .lit (.string [98, 111, 111, 108]), .lit (.string [118, 101, 99, 50]), .lit (.string [118, 101, 99, 51]), .lit (.string [118, 101, 99, 52])] []
def laid_frustum_lexer_otherWords {H : Type} : DataW H := .slice [.lit (.string [115, 104, 97, 100, 101, 114]), .lit (.string [118, 101, 114, 116, 101, 120]), .lit (.string [103, 101, 111, 109, 101, 116, 114, 121]), .lit (.string [102, 114, 97, 103, 109, 101, 110, 116]), .lit (.string [115, 116, 114, 117, 99, 116]), .lit (.string [117, 110, 105, 102, 111, 114, 109]), .lit (.string [116, 101, 120, 116, 117, 114, 101]), .lit (.string [98, 117, 102, 102, 101, 114]), .lit (.string [105, 110]), .lit (.string [111, 117, 116]), .lit (.string [102, 110]), .lit (.string [114, 101, 116, 117, 114, 110]), .lit (.string [109, 97, 105, 110]), .lit (.string [108, 101, 116]), .lit (.string [105, 102]), .lit (.string [101, 108, 115, 101]), .lit (.string [108, 111, 111, 112]), .lit (.string [98, 114, 101, 97, 107]), .lit (.string [99, 111, 110, 116, 105, 110, 117, 101]), .lit (.string [100, 105, 115, 99, 97, 114, 100]), .lit (.string [101, 109, 105, 116]), .lit (.string [99, 117, 116]), .lit (.string [116, 114, 117, 101]), .lit (.string [102, 97, 108, 115, 101])] []
def laid_frustum_types_builtins {H : Type} : DataW H := .slice [.lit (.string [109, 105, 110]), .lit (.string [109, 97, 120]), .lit (.string [99, 108, 97, 109, 112]), .lit (.string [97, 98, 115]), .lit (.string [102, 108, 111, 111, 114]), .lit (.string [102, 114, 97, 99, 116]), .lit (.string [115, 113, 114, 116]), .lit (.string [100, 111, 116]), .lit (.string [109, 105, 120]), .lit (.string [115, 97, 109, 112, 108, 101]), .lit (.string [102, 101, 116, 99, 104]), .lit (.string [108, 111, 97, 100]), .lit (.string [100, 100, 120]), .lit (.string [100, 100, 121])] []
def laid_frustum_types_words {H : Type} : DataW H := .slice [.lit (.string [102, 105, 120, 101, 100]), .lit (.string [104, 97, 108, 102]), .lit (.string [105, 110, 116]), .lit (.string [98, 111, 111, 108]), .lit (.string [118, 101, 99, 50]), .lit (.string [118, 101, 99, 51]), .lit (.string [118, 101, 99, 52])] []

/-- 'frustumlaw28.LinkMatches': WHATEVER THE INPUT: true; the input reads as it did. -/
def linkMatchesSpec : ChangeSpec := { name := "linkMatches", fn := fun _ => fun
  | [d] => { results := [.lit (.bool true)], args := [d] }
  | _ => none }
def linkMatchesRow : OpenClaim := { program := "ytjhaldbohblieaagreatdoor", sum := "4807ebcd473cb53d0ddf67ecd705a38c8dd0352f495ab545b70957f29c6b0d2e", func := "frustum/frustumlaw28.LinkMatches", spec := "linkMatches", unfollowed := true, recurses := true, named := ["frustum/lexer.otherWords", "frustum/lexer.typeWords", "frustum/types.builtins", "frustum/types.words"], loops := true, apart := false, laid := [("frustum/lexer.typeWords", laid_frustum_lexer_typeWords), ("frustum/lexer.otherWords", laid_frustum_lexer_otherWords), ("frustum/types.builtins", laid_frustum_types_builtins), ("frustum/types.words", laid_frustum_types_words)] }
def LinkMatchesSaid : Prop := linkMatchesRow.holds Tryz.pinned (OpenSpec.ofChange linkMatchesSpec)

/-- ITS FALSE NEIGHBOUR: 'it returns false'. Refute it at one input. -/
def linkMatchesWrong : ChangeSpec := { name := "linkMatches", fn := fun _ => fun
  | [d] => { results := [.lit (.bool false)], args := [d] }
  | _ => none }
def LinkMatchesWrongFalsely : Prop := linkMatchesRow.holds Tryz.pinned (OpenSpec.ofChange linkMatchesWrong)

/-- 'frustumlaw28.LinkPipeline': WHATEVER THE INPUT: true; the input reads as it did. -/
def linkPipelineSpec : ChangeSpec := { name := "linkPipeline", fn := fun _ => fun
  | [d1, d2, d3] => { results := [.lit (.bool true)], args := [d1, d2, d3] }
  | _ => none }
def linkPipelineRow : OpenClaim := { program := "ytjhaldbohblieaagreatdoor", sum := "4807ebcd473cb53d0ddf67ecd705a38c8dd0352f495ab545b70957f29c6b0d2e", func := "frustum/frustumlaw28.LinkPipeline", spec := "linkPipeline", unfollowed := true, recurses := true, named := ["frustum/lexer.otherWords", "frustum/lexer.typeWords", "frustum/types.builtins", "frustum/types.words"], loops := true, apart := false, laid := [("frustum/lexer.typeWords", laid_frustum_lexer_typeWords), ("frustum/lexer.otherWords", laid_frustum_lexer_otherWords), ("frustum/types.builtins", laid_frustum_types_builtins), ("frustum/types.words", laid_frustum_types_words)] }
def LinkPipelineSaid : Prop := linkPipelineRow.holds Tryz.pinned (OpenSpec.ofChange linkPipelineSpec)

/-- ITS FALSE NEIGHBOUR: 'it returns false'. Refute it at one input. -/
def linkPipelineWrong : ChangeSpec := { name := "linkPipeline", fn := fun _ => fun
  | [d1, d2, d3] => { results := [.lit (.bool false)], args := [d1, d2, d3] }
  | _ => none }
def LinkPipelineWrongFalsely : Prop := linkPipelineRow.holds Tryz.pinned (OpenSpec.ofChange linkPipelineWrong)

/-- 'frustumlaw28.LinkComponents': WHATEVER THE INPUT: true; the input reads as it did. -/
def linkComponentsSpec : ChangeSpec := { name := "linkComponents", fn := fun _ => fun
  | [d] => { results := [.lit (.bool true)], args := [d] }
  | _ => none }
def linkComponentsRow : OpenClaim := { program := "ytjhaldbohblieaagreatdoor", sum := "4807ebcd473cb53d0ddf67ecd705a38c8dd0352f495ab545b70957f29c6b0d2e", func := "frustum/frustumlaw28.LinkComponents", spec := "linkComponents", unfollowed := true, recurses := true, named := ["frustum/lexer.otherWords", "frustum/lexer.typeWords", "frustum/types.builtins", "frustum/types.words"], loops := true, apart := false, laid := [("frustum/lexer.typeWords", laid_frustum_lexer_typeWords), ("frustum/lexer.otherWords", laid_frustum_lexer_otherWords), ("frustum/types.builtins", laid_frustum_types_builtins), ("frustum/types.words", laid_frustum_types_words)] }
def LinkComponentsSaid : Prop := linkComponentsRow.holds Tryz.pinned (OpenSpec.ofChange linkComponentsSpec)

/-- ITS FALSE NEIGHBOUR: 'it returns false'. Refute it at one input. -/
def linkComponentsWrong : ChangeSpec := { name := "linkComponents", fn := fun _ => fun
  | [d] => { results := [.lit (.bool false)], args := [d] }
  | _ => none }
def LinkComponentsWrongFalsely : Prop := linkComponentsRow.holds Tryz.pinned (OpenSpec.ofChange linkComponentsWrong)

/-- 'frustumlaw28.LinkEqualFields': WHATEVER THE INPUT: true; the input reads as it did. -/
def linkEqualFieldsSpec : ChangeSpec := { name := "linkEqualFields", fn := fun _ => fun
  | [d1, d2, d3] => { results := [.lit (.bool true)], args := [d1, d2, d3] }
  | _ => none }
def linkEqualFieldsRow : OpenClaim := { program := "ytjhaldbohblieaagreatdoor", sum := "4807ebcd473cb53d0ddf67ecd705a38c8dd0352f495ab545b70957f29c6b0d2e", func := "frustum/frustumlaw28.LinkEqualFields", spec := "linkEqualFields", unfollowed := true, recurses := true, named := ["frustum/lexer.otherWords", "frustum/lexer.typeWords", "frustum/types.builtins", "frustum/types.words"], loops := true, apart := false, laid := [("frustum/lexer.typeWords", laid_frustum_lexer_typeWords), ("frustum/lexer.otherWords", laid_frustum_lexer_otherWords), ("frustum/types.builtins", laid_frustum_types_builtins), ("frustum/types.words", laid_frustum_types_words)] }
def LinkEqualFieldsSaid : Prop := linkEqualFieldsRow.holds Tryz.pinned (OpenSpec.ofChange linkEqualFieldsSpec)

/-- ITS FALSE NEIGHBOUR: 'it returns false'. Refute it at one input. -/
def linkEqualFieldsWrong : ChangeSpec := { name := "linkEqualFields", fn := fun _ => fun
  | [d1, d2, d3] => { results := [.lit (.bool false)], args := [d1, d2, d3] }
  | _ => none }
def LinkEqualFieldsWrongFalsely : Prop := linkEqualFieldsRow.holds Tryz.pinned (OpenSpec.ofChange linkEqualFieldsWrong)

/-- 'frustumlaw28.LinkGeometryInputs': WHATEVER THE INPUT: true; the input reads as it did. -/
def linkGeometryInputsSpec : ChangeSpec := { name := "linkGeometryInputs", fn := fun _ => fun
  | [d] => { results := [.lit (.bool true)], args := [d] }
  | _ => none }
def linkGeometryInputsRow : OpenClaim := { program := "ytjhaldbohblieaagreatdoor", sum := "4807ebcd473cb53d0ddf67ecd705a38c8dd0352f495ab545b70957f29c6b0d2e", func := "frustum/frustumlaw28.LinkGeometryInputs", spec := "linkGeometryInputs", unfollowed := true, recurses := true, named := ["frustum/lexer.otherWords", "frustum/lexer.typeWords", "frustum/types.builtins", "frustum/types.words"], loops := true, apart := false, laid := [("frustum/lexer.typeWords", laid_frustum_lexer_typeWords), ("frustum/lexer.otherWords", laid_frustum_lexer_otherWords), ("frustum/types.builtins", laid_frustum_types_builtins), ("frustum/types.words", laid_frustum_types_words)] }
def LinkGeometryInputsSaid : Prop := linkGeometryInputsRow.holds Tryz.pinned (OpenSpec.ofChange linkGeometryInputsSpec)

/-- ITS FALSE NEIGHBOUR: 'it returns false'. Refute it at one input. -/
def linkGeometryInputsWrong : ChangeSpec := { name := "linkGeometryInputs", fn := fun _ => fun
  | [d] => { results := [.lit (.bool false)], args := [d] }
  | _ => none }
def LinkGeometryInputsWrongFalsely : Prop := linkGeometryInputsRow.holds Tryz.pinned (OpenSpec.ofChange linkGeometryInputsWrong)

/- THE SECOND FORM. 'bulk': how many values and letters a reading holds, each counted each time it is reached (what is shared counts as often as it is met; a slice's spare places count too). A statement '..UptoSaid' is the law's where the arguments, and the package variables that the reading takes, are together of bulk at most 1048576: NARROWER than '..Said'. Prove '..Said' where nothing that the law and all that it calls make is longer than what came in: it says more and counts as full. Else prove '..UptoSaid'. A law counts once. -/
mutual
def uptoBulk {H : Type} : DataW H → Nat
  | .lit (.string bytes) => bytes.length + 1
  | .lit _ => 1
  | .nil => 1
  | .ptr d => uptoBulk d + 1
  | .slice elems spare => uptoBulkAll elems + uptoBulkAll spare + 1
  | .agg parts => uptoBulkAll parts + 1
  | .iface _ d => uptoBulk d + 1
  | .map entries => uptoBulkEntries entries + 1
  | .held _ => 1
def uptoBulkAll {H : Type} : List (DataW H) → Nat
  | [] => 0
  | d :: r => uptoBulk d + uptoBulkAll r
def uptoBulkEntries {H : Type} : List (Lit × DataW H) → Nat
  | [] => 0
  | x :: r => uptoBulkEntry x + uptoBulkEntries r
def uptoBulkEntry {H : Type} : Lit × DataW H → Nat
  | (.string bytes, d) => bytes.length + uptoBulk d + 1
  | (_, d) => uptoBulk d + 1
 end
def uptoSmall : (H : Type) → List (DataW H) → Bool := fun _ ds => decide (uptoBulkAll ds ≤ 1048576)
def OpenSpec.upto (s : _root_.Go.ChangeSpec) : _root_.Go.OpenSpec := { _root_.Go.OpenSpec.ofChange s with cond := some uptoSmall }

/-- 'frustumlaw28.LinkMatches', WHERE WHAT IT READS IS OF BULK AT MOST 1048576: true; the input reads as it did. -/
def linkMatchesUptoRow : OpenClaim := { program := "ytjhaldbohblieaagreatdoor", sum := "4807ebcd473cb53d0ddf67ecd705a38c8dd0352f495ab545b70957f29c6b0d2e", func := "frustum/frustumlaw28.LinkMatches", spec := "linkMatches", unfollowed := true, recurses := true, named := ["frustum/lexer.otherWords", "frustum/lexer.typeWords", "frustum/types.builtins", "frustum/types.words"], loops := true, apart := false, laid := [("frustum/lexer.typeWords", laid_frustum_lexer_typeWords), ("frustum/lexer.otherWords", laid_frustum_lexer_otherWords), ("frustum/types.builtins", laid_frustum_types_builtins), ("frustum/types.words", laid_frustum_types_words)], narrowed := true }
def LinkMatchesUptoSaid : Prop := linkMatchesUptoRow.holds Tryz.pinned (OpenSpec.upto linkMatchesSpec)

/-- 'frustumlaw28.LinkPipeline', WHERE WHAT IT READS IS OF BULK AT MOST 1048576: true; the input reads as it did. -/
def linkPipelineUptoRow : OpenClaim := { program := "ytjhaldbohblieaagreatdoor", sum := "4807ebcd473cb53d0ddf67ecd705a38c8dd0352f495ab545b70957f29c6b0d2e", func := "frustum/frustumlaw28.LinkPipeline", spec := "linkPipeline", unfollowed := true, recurses := true, named := ["frustum/lexer.otherWords", "frustum/lexer.typeWords", "frustum/types.builtins", "frustum/types.words"], loops := true, apart := false, laid := [("frustum/lexer.typeWords", laid_frustum_lexer_typeWords), ("frustum/lexer.otherWords", laid_frustum_lexer_otherWords), ("frustum/types.builtins", laid_frustum_types_builtins), ("frustum/types.words", laid_frustum_types_words)], narrowed := true }
def LinkPipelineUptoSaid : Prop := linkPipelineUptoRow.holds Tryz.pinned (OpenSpec.upto linkPipelineSpec)

/-- 'frustumlaw28.LinkComponents', WHERE WHAT IT READS IS OF BULK AT MOST 1048576: true; the input reads as it did. -/
def linkComponentsUptoRow : OpenClaim := { program := "ytjhaldbohblieaagreatdoor", sum := "4807ebcd473cb53d0ddf67ecd705a38c8dd0352f495ab545b70957f29c6b0d2e", func := "frustum/frustumlaw28.LinkComponents", spec := "linkComponents", unfollowed := true, recurses := true, named := ["frustum/lexer.otherWords", "frustum/lexer.typeWords", "frustum/types.builtins", "frustum/types.words"], loops := true, apart := false, laid := [("frustum/lexer.typeWords", laid_frustum_lexer_typeWords), ("frustum/lexer.otherWords", laid_frustum_lexer_otherWords), ("frustum/types.builtins", laid_frustum_types_builtins), ("frustum/types.words", laid_frustum_types_words)], narrowed := true }
def LinkComponentsUptoSaid : Prop := linkComponentsUptoRow.holds Tryz.pinned (OpenSpec.upto linkComponentsSpec)

/-- 'frustumlaw28.LinkEqualFields', WHERE WHAT IT READS IS OF BULK AT MOST 1048576: true; the input reads as it did. -/
def linkEqualFieldsUptoRow : OpenClaim := { program := "ytjhaldbohblieaagreatdoor", sum := "4807ebcd473cb53d0ddf67ecd705a38c8dd0352f495ab545b70957f29c6b0d2e", func := "frustum/frustumlaw28.LinkEqualFields", spec := "linkEqualFields", unfollowed := true, recurses := true, named := ["frustum/lexer.otherWords", "frustum/lexer.typeWords", "frustum/types.builtins", "frustum/types.words"], loops := true, apart := false, laid := [("frustum/lexer.typeWords", laid_frustum_lexer_typeWords), ("frustum/lexer.otherWords", laid_frustum_lexer_otherWords), ("frustum/types.builtins", laid_frustum_types_builtins), ("frustum/types.words", laid_frustum_types_words)], narrowed := true }
def LinkEqualFieldsUptoSaid : Prop := linkEqualFieldsUptoRow.holds Tryz.pinned (OpenSpec.upto linkEqualFieldsSpec)

/-- 'frustumlaw28.LinkGeometryInputs', WHERE WHAT IT READS IS OF BULK AT MOST 1048576: true; the input reads as it did. -/
def linkGeometryInputsUptoRow : OpenClaim := { program := "ytjhaldbohblieaagreatdoor", sum := "4807ebcd473cb53d0ddf67ecd705a38c8dd0352f495ab545b70957f29c6b0d2e", func := "frustum/frustumlaw28.LinkGeometryInputs", spec := "linkGeometryInputs", unfollowed := true, recurses := true, named := ["frustum/lexer.otherWords", "frustum/lexer.typeWords", "frustum/types.builtins", "frustum/types.words"], loops := true, apart := false, laid := [("frustum/lexer.typeWords", laid_frustum_lexer_typeWords), ("frustum/lexer.otherWords", laid_frustum_lexer_otherWords), ("frustum/types.builtins", laid_frustum_types_builtins), ("frustum/types.words", laid_frustum_types_words)], narrowed := true }
def LinkGeometryInputsUptoSaid : Prop := linkGeometryInputsUptoRow.holds Tryz.pinned (OpenSpec.upto linkGeometryInputsSpec)

end Rows
end Go.Proofs.YtjhaldbohblieaaGreatDoor
