/-
  No cell of these rows narrows 'for every input' (looked for: loops, veiled, ifaces, maps, wideKeys, modest, calm, conditions, laid).
  DERIVED. THE GIVEN ROWS OF THIS SEAT. 7 by the template 'for every input the law returns true; each argument reads behind the call as it read before'; 0 by the template 'total and deterministic' (their statements: YteodaifeknghaaaTotals.lean).
  GIVEN WITH THE SEED: the statements are not yours to turn. If you find one false, say at which input.
  Laid BY PROGRAM, IN A SANDBOX (cutbox-rows.mjs): the forced cells as the released guide's own fill.sh prints them over the translation 05be3ba7e4997bb7… (all of the seat's roots in one cut). By AI agents, Wed Nov 11 2026. No macro, syntax, notation, axiom, sorry.
-/
import Derived.Test.YteodaifeknghaaaChecked
import GoSem.Claim
import GoSem.ClaimJoined
import GoSem.ClaimMapViews
import Derived.JoinedTies
import Derived.KernelRfl
namespace Go.Proofs.Yteodaifeknghaaa
/- THE CELL 'sum', in the pinned program and in every row, IS THE sha256 OF THE DUMP (.gsa) THAT YteodaifeknghaaaProg.lean LOADS. Nothing in Lean hashes anything: it is a label: what it is worth is what the hold of that sum in a sandbox is worth. -/
noncomputable def Try.pinned : Pinned := { name := "yteodaifeknghaaa", sum := "05be3ba7e4997bb7c209deea416889d9a0cfe2335c2310c4c4452b6228998393", checked := Try.checked }
namespace Rows
def none {H : Type} : Left H := { results := [], args := [] }

/-- 'frustumlaw16.AssembleTriangles': WHATEVER THE INPUT: true; the input reads as it did. -/
def assembleTrianglesSpec : ChangeSpec := { name := "assembleTriangles", fn := fun _ => fun
  | [d1, d2, d3] => { results := [.lit (.bool true)], args := [d1, d2, d3] }
  | _ => none }
def assembleTrianglesRow : OpenClaim := { program := "yteodaifeknghaaa", sum := "05be3ba7e4997bb7c209deea416889d9a0cfe2335c2310c4c4452b6228998393", func := "frustum/frustumlaw16.AssembleTriangles", spec := "assembleTriangles", plainKeys := false, apart := false }
def AssembleTrianglesSaid : Prop := assembleTrianglesRow.holds Try.pinned (OpenSpec.ofChange assembleTrianglesSpec)

/-- ITS FALSE NEIGHBOUR: 'it returns false'. Refute it at one input. -/
def assembleTrianglesWrong : ChangeSpec := { name := "assembleTriangles", fn := fun _ => fun
  | [d1, d2, d3] => { results := [.lit (.bool false)], args := [d1, d2, d3] }
  | _ => none }
def AssembleTrianglesWrongFalsely : Prop := assembleTrianglesRow.holds Try.pinned (OpenSpec.ofChange assembleTrianglesWrong)

/-- 'frustumlaw16.AssembleRuns': WHATEVER THE INPUT: true; the input reads as it did. -/
def assembleRunsSpec : ChangeSpec := { name := "assembleRuns", fn := fun _ => fun
  | [d] => { results := [.lit (.bool true)], args := [d] }
  | _ => none }
def assembleRunsRow : OpenClaim := { program := "yteodaifeknghaaa", sum := "05be3ba7e4997bb7c209deea416889d9a0cfe2335c2310c4c4452b6228998393", func := "frustum/frustumlaw16.AssembleRuns", spec := "assembleRuns", plainKeys := false, apart := false }
def AssembleRunsSaid : Prop := assembleRunsRow.holds Try.pinned (OpenSpec.ofChange assembleRunsSpec)

/-- ITS FALSE NEIGHBOUR: 'it returns false'. Refute it at one input. -/
def assembleRunsWrong : ChangeSpec := { name := "assembleRuns", fn := fun _ => fun
  | [d] => { results := [.lit (.bool false)], args := [d] }
  | _ => none }
def AssembleRunsWrongFalsely : Prop := assembleRunsRow.holds Try.pinned (OpenSpec.ofChange assembleRunsWrong)

/-- 'frustumlaw16.AssembleRunsPartition': WHATEVER THE INPUT: true; the input reads as it did. -/
def assembleRunsPartitionSpec : ChangeSpec := { name := "assembleRunsPartition", fn := fun _ => fun
  | [d] => { results := [.lit (.bool true)], args := [d] }
  | _ => none }
def assembleRunsPartitionRow : OpenClaim := { program := "yteodaifeknghaaa", sum := "05be3ba7e4997bb7c209deea416889d9a0cfe2335c2310c4c4452b6228998393", func := "frustum/frustumlaw16.AssembleRunsPartition", spec := "assembleRunsPartition", plainKeys := false, apart := false }
def AssembleRunsPartitionSaid : Prop := assembleRunsPartitionRow.holds Try.pinned (OpenSpec.ofChange assembleRunsPartitionSpec)

/-- ITS FALSE NEIGHBOUR: 'it returns false'. Refute it at one input. -/
def assembleRunsPartitionWrong : ChangeSpec := { name := "assembleRunsPartition", fn := fun _ => fun
  | [d] => { results := [.lit (.bool false)], args := [d] }
  | _ => none }
def AssembleRunsPartitionWrongFalsely : Prop := assembleRunsPartitionRow.holds Try.pinned (OpenSpec.ofChange assembleRunsPartitionWrong)

/-- 'frustumlaw16.AssembleCountSum': WHATEVER THE INPUT: true; the input reads as it did. -/
def assembleCountSumSpec : ChangeSpec := { name := "assembleCountSum", fn := fun _ => fun
  | [d1, d2] => { results := [.lit (.bool true)], args := [d1, d2] }
  | _ => none }
def assembleCountSumRow : OpenClaim := { program := "yteodaifeknghaaa", sum := "05be3ba7e4997bb7c209deea416889d9a0cfe2335c2310c4c4452b6228998393", func := "frustum/frustumlaw16.AssembleCountSum", spec := "assembleCountSum", plainKeys := false, apart := false }
def AssembleCountSumSaid : Prop := assembleCountSumRow.holds Try.pinned (OpenSpec.ofChange assembleCountSumSpec)

/-- ITS FALSE NEIGHBOUR: 'it returns false'. Refute it at one input. -/
def assembleCountSumWrong : ChangeSpec := { name := "assembleCountSum", fn := fun _ => fun
  | [d1, d2] => { results := [.lit (.bool false)], args := [d1, d2] }
  | _ => none }
def AssembleCountSumWrongFalsely : Prop := assembleCountSumRow.holds Try.pinned (OpenSpec.ofChange assembleCountSumWrong)

/-- 'frustumlaw16.AssembleRotate': WHATEVER THE INPUT: true; the input reads as it did. -/
def assembleRotateSpec : ChangeSpec := { name := "assembleRotate", fn := fun _ => fun
  | [d1, d2, d3] => { results := [.lit (.bool true)], args := [d1, d2, d3] }
  | _ => none }
def assembleRotateRow : OpenClaim := { program := "yteodaifeknghaaa", sum := "05be3ba7e4997bb7c209deea416889d9a0cfe2335c2310c4c4452b6228998393", func := "frustum/frustumlaw16.AssembleRotate", spec := "assembleRotate", plainKeys := false, apart := false }
def AssembleRotateSaid : Prop := assembleRotateRow.holds Try.pinned (OpenSpec.ofChange assembleRotateSpec)

/-- ITS FALSE NEIGHBOUR: 'it returns false'. Refute it at one input. -/
def assembleRotateWrong : ChangeSpec := { name := "assembleRotate", fn := fun _ => fun
  | [d1, d2, d3] => { results := [.lit (.bool false)], args := [d1, d2, d3] }
  | _ => none }
def AssembleRotateWrongFalsely : Prop := assembleRotateRow.holds Try.pinned (OpenSpec.ofChange assembleRotateWrong)

/-- 'frustumlaw16.AssembleEdges': WHATEVER THE INPUT: true; the input reads as it did. -/
def assembleEdgesSpec : ChangeSpec := { name := "assembleEdges", fn := fun _ => fun
  | [d] => { results := [.lit (.bool true)], args := [d] }
  | _ => none }
def assembleEdgesRow : OpenClaim := { program := "yteodaifeknghaaa", sum := "05be3ba7e4997bb7c209deea416889d9a0cfe2335c2310c4c4452b6228998393", func := "frustum/frustumlaw16.AssembleEdges", spec := "assembleEdges", recurses := true, plainKeys := false, apart := false }
def AssembleEdgesSaid : Prop := assembleEdgesRow.holds Try.pinned (OpenSpec.ofChange assembleEdgesSpec)

/-- ITS FALSE NEIGHBOUR: 'it returns false'. Refute it at one input. -/
def assembleEdgesWrong : ChangeSpec := { name := "assembleEdges", fn := fun _ => fun
  | [d] => { results := [.lit (.bool false)], args := [d] }
  | _ => none }
def AssembleEdgesWrongFalsely : Prop := assembleEdgesRow.holds Try.pinned (OpenSpec.ofChange assembleEdgesWrong)

/-- 'frustumlaw16.AssembleStripOrientation': WHATEVER THE INPUT: true; the input reads as it did. -/
def assembleStripOrientationSpec : ChangeSpec := { name := "assembleStripOrientation", fn := fun _ => fun
  | [d1, d2] => { results := [.lit (.bool true)], args := [d1, d2] }
  | _ => none }
def assembleStripOrientationRow : OpenClaim := { program := "yteodaifeknghaaa", sum := "05be3ba7e4997bb7c209deea416889d9a0cfe2335c2310c4c4452b6228998393", func := "frustum/frustumlaw16.AssembleStripOrientation", spec := "assembleStripOrientation", recurses := true, plainKeys := false, apart := false }
def AssembleStripOrientationSaid : Prop := assembleStripOrientationRow.holds Try.pinned (OpenSpec.ofChange assembleStripOrientationSpec)

/-- ITS FALSE NEIGHBOUR: 'it returns false'. Refute it at one input. -/
def assembleStripOrientationWrong : ChangeSpec := { name := "assembleStripOrientation", fn := fun _ => fun
  | [d1, d2] => { results := [.lit (.bool false)], args := [d1, d2] }
  | _ => none }
def AssembleStripOrientationWrongFalsely : Prop := assembleStripOrientationRow.holds Try.pinned (OpenSpec.ofChange assembleStripOrientationWrong)

/- THE SECOND FORM. 'bulk': how many values and letters a reading holds, each counted each time it is reached (what is shared counts as often as it is met; a slice's spare places count too). A statement '..UptoSaid' is the law's where the arguments, and the package variables that the reading takes, are together of bulk at most 1048576: NARROWER than '..Said'. Prove '..Said' where nothing that the law and all that it calls make is longer than what came in: it says more and counts as full. Else prove '..UptoSaid'. A law counts once. -/
mutual
def uptoBulk {H : Type} : DataW H → Nat
  | .lit (.string bytes) => bytes.length + 1
  | .lit _ => 1
  | .nil => 1
  | .ptr d => uptoBulk d + 1
  | .slice elems spare => uptoBulkAll elems + uptoBulkAll spare + 1
  | .agg parts => uptoBulkAll parts + 1
  | .iface _ d => uptoBulk d + 1
  | .map entries => uptoBulkEntries entries + 1
  | .held _ => 1
def uptoBulkAll {H : Type} : List (DataW H) → Nat
  | [] => 0
  | d :: r => uptoBulk d + uptoBulkAll r
def uptoBulkEntries {H : Type} : List (Lit × DataW H) → Nat
  | [] => 0
  | x :: r => uptoBulkEntry x + uptoBulkEntries r
def uptoBulkEntry {H : Type} : Lit × DataW H → Nat
  | (.string bytes, d) => bytes.length + uptoBulk d + 1
  | (_, d) => uptoBulk d + 1
 end
def uptoSmall : (H : Type) → List (DataW H) → Bool := fun _ ds => decide (uptoBulkAll ds ≤ 1048576)
def OpenSpec.upto (s : _root_.Go.ChangeSpec) : _root_.Go.OpenSpec := { _root_.Go.OpenSpec.ofChange s with cond := some uptoSmall }

/-- 'frustumlaw16.AssembleTriangles', WHERE WHAT IT READS IS OF BULK AT MOST 1048576: true; the input reads as it did. -/
def assembleTrianglesUptoRow : OpenClaim := { program := "yteodaifeknghaaa", sum := "05be3ba7e4997bb7c209deea416889d9a0cfe2335c2310c4c4452b6228998393", func := "frustum/frustumlaw16.AssembleTriangles", spec := "assembleTriangles", plainKeys := false, apart := false, narrowed := true }
def AssembleTrianglesUptoSaid : Prop := assembleTrianglesUptoRow.holds Try.pinned (OpenSpec.upto assembleTrianglesSpec)

/-- 'frustumlaw16.AssembleRuns', WHERE WHAT IT READS IS OF BULK AT MOST 1048576: true; the input reads as it did. -/
def assembleRunsUptoRow : OpenClaim := { program := "yteodaifeknghaaa", sum := "05be3ba7e4997bb7c209deea416889d9a0cfe2335c2310c4c4452b6228998393", func := "frustum/frustumlaw16.AssembleRuns", spec := "assembleRuns", plainKeys := false, apart := false, narrowed := true }
def AssembleRunsUptoSaid : Prop := assembleRunsUptoRow.holds Try.pinned (OpenSpec.upto assembleRunsSpec)

/-- 'frustumlaw16.AssembleRunsPartition', WHERE WHAT IT READS IS OF BULK AT MOST 1048576: true; the input reads as it did. -/
def assembleRunsPartitionUptoRow : OpenClaim := { program := "yteodaifeknghaaa", sum := "05be3ba7e4997bb7c209deea416889d9a0cfe2335c2310c4c4452b6228998393", func := "frustum/frustumlaw16.AssembleRunsPartition", spec := "assembleRunsPartition", plainKeys := false, apart := false, narrowed := true }
def AssembleRunsPartitionUptoSaid : Prop := assembleRunsPartitionUptoRow.holds Try.pinned (OpenSpec.upto assembleRunsPartitionSpec)

/-- 'frustumlaw16.AssembleCountSum', WHERE WHAT IT READS IS OF BULK AT MOST 1048576: true; the input reads as it did. -/
def assembleCountSumUptoRow : OpenClaim := { program := "yteodaifeknghaaa", sum := "05be3ba7e4997bb7c209deea416889d9a0cfe2335c2310c4c4452b6228998393", func := "frustum/frustumlaw16.AssembleCountSum", spec := "assembleCountSum", plainKeys := false, apart := false, narrowed := true }
def AssembleCountSumUptoSaid : Prop := assembleCountSumUptoRow.holds Try.pinned (OpenSpec.upto assembleCountSumSpec)

/-- 'frustumlaw16.AssembleRotate', WHERE WHAT IT READS IS OF BULK AT MOST 1048576: true; the input reads as it did. -/
def assembleRotateUptoRow : OpenClaim := { program := "yteodaifeknghaaa", sum := "05be3ba7e4997bb7c209deea416889d9a0cfe2335c2310c4c4452b6228998393", func := "frustum/frustumlaw16.AssembleRotate", spec := "assembleRotate", plainKeys := false, apart := false, narrowed := true }
def AssembleRotateUptoSaid : Prop := assembleRotateUptoRow.holds Try.pinned (OpenSpec.upto assembleRotateSpec)

/-- 'frustumlaw16.AssembleEdges', WHERE WHAT IT READS IS OF BULK AT MOST 1048576: true; the input reads as it did. -/
def assembleEdgesUptoRow : OpenClaim := { program := "yteodaifeknghaaa", sum := "05be3ba7e4997bb7c209deea416889d9a0cfe2335c2310c4c4452b6228998393", func := "frustum/frustumlaw16.AssembleEdges", spec := "assembleEdges", recurses := true, plainKeys := false, apart := false, narrowed := true }
def AssembleEdgesUptoSaid : Prop := assembleEdgesUptoRow.holds Try.pinned (OpenSpec.upto assembleEdgesSpec)

/-- 'frustumlaw16.AssembleStripOrientation', WHERE WHAT IT READS IS OF BULK AT MOST 1048576: true; the input reads as it did. -/
def assembleStripOrientationUptoRow : OpenClaim := { program := "yteodaifeknghaaa", sum := "05be3ba7e4997bb7c209deea416889d9a0cfe2335c2310c4c4452b6228998393", func := "frustum/frustumlaw16.AssembleStripOrientation", spec := "assembleStripOrientation", recurses := true, plainKeys := false, apart := false, narrowed := true }
def AssembleStripOrientationUptoSaid : Prop := assembleStripOrientationUptoRow.holds Try.pinned (OpenSpec.upto assembleStripOrientationSpec)

end Rows
end Go.Proofs.Yteodaifeknghaaa
