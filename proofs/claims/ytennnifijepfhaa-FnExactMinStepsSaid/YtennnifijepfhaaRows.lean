/-
  No cell of these rows narrows 'for every input' (looked for: loops, veiled, ifaces, maps, wideKeys, modest, calm, conditions, laid).
  DERIVED. THE GIVEN ROWS OF THIS SEAT. 12 by the template 'for every input the law returns true; each argument reads behind the call as it read before'; 0 by the template 'total and deterministic' (their statements: YtennnifijepfhaaTotals.lean).
  GIVEN WITH THE SEED: the statements are not yours to turn. If you find one false, say at which input.
  Laid BY PROGRAM, IN A SANDBOX (cutbox-rows.mjs): the forced cells as the released guide's own fill.sh prints them over the translation f4d43b415c41fbe1… (all of the seat's roots in one cut). By AI agents, Wed Nov 11 2026. No macro, syntax, notation, axiom, sorry.
-/
import Derived.Test.YtennnifijepfhaaChecked
import GoSem.Claim
import GoSem.ClaimJoined
import GoSem.ClaimMapViews
import Derived.JoinedTies
import Derived.KernelRfl
namespace Go.Proofs.Ytennnifijepfhaa
/- THE CELL 'sum', in the pinned program and in every row, IS THE sha256 OF THE DUMP (.gsa) THAT YtennnifijepfhaaProg.lean LOADS. Nothing in Lean hashes anything: it is a label: what it is worth is what the hold of that sum in a sandbox is worth. -/
noncomputable def Try.pinned : Pinned := { name := "ytennnifijepfhaa", sum := "f4d43b415c41fbe12a5142dff568bbbf33ba0aec32c795bed9d7f36225488a7c", checked := Try.checked }
namespace Rows
def none {H : Type} : Left H := { results := [], args := [] }

/-- 'laws.FnExactShardOf': WHATEVER THE INPUT: true; the input reads as it did. -/
def fnExactShardOfSpec : ChangeSpec := { name := "fnExactShardOf", fn := fun _ => fun
  | [d1, d2, d3] => { results := [.lit (.bool true)], args := [d1, d2, d3] }
  | _ => none }
def fnExactShardOfRow : OpenClaim := { program := "ytennnifijepfhaa", sum := "f4d43b415c41fbe12a5142dff568bbbf33ba0aec32c795bed9d7f36225488a7c", func := "loop.example/dataflow/laws.FnExactShardOf", spec := "fnExactShardOf", apart := false }
def FnExactShardOfSaid : Prop := fnExactShardOfRow.holds Try.pinned (OpenSpec.ofChange fnExactShardOfSpec)

/-- ITS FALSE NEIGHBOUR: 'it returns false'. Refute it at one input. -/
def fnExactShardOfWrong : ChangeSpec := { name := "fnExactShardOf", fn := fun _ => fun
  | [d1, d2, d3] => { results := [.lit (.bool false)], args := [d1, d2, d3] }
  | _ => none }
def FnExactShardOfWrongFalsely : Prop := fnExactShardOfRow.holds Try.pinned (OpenSpec.ofChange fnExactShardOfWrong)

/-- 'laws.FnShardOf': WHATEVER THE INPUT: true; the input reads as it did. -/
def fnShardOfSpec : ChangeSpec := { name := "fnShardOf", fn := fun _ => fun
  | [d] => { results := [.lit (.bool true)], args := [d] }
  | _ => none }
def fnShardOfRow : OpenClaim := { program := "ytennnifijepfhaa", sum := "f4d43b415c41fbe12a5142dff568bbbf33ba0aec32c795bed9d7f36225488a7c", func := "loop.example/dataflow/laws.FnShardOf", spec := "fnShardOf", apart := false }
def FnShardOfSaid : Prop := fnShardOfRow.holds Try.pinned (OpenSpec.ofChange fnShardOfSpec)

/-- ITS FALSE NEIGHBOUR: 'it returns false'. Refute it at one input. -/
def fnShardOfWrong : ChangeSpec := { name := "fnShardOf", fn := fun _ => fun
  | [d] => { results := [.lit (.bool false)], args := [d] }
  | _ => none }
def FnShardOfWrongFalsely : Prop := fnShardOfRow.holds Try.pinned (OpenSpec.ofChange fnShardOfWrong)

/-- 'laws.FnExactValidGraph': WHATEVER THE INPUT: true; the input reads as it did. -/
def fnExactValidGraphSpec : ChangeSpec := { name := "fnExactValidGraph", fn := fun _ => fun
  | [d1, d2] => { results := [.lit (.bool true)], args := [d1, d2] }
  | _ => none }
def fnExactValidGraphRow : OpenClaim := { program := "ytennnifijepfhaa", sum := "f4d43b415c41fbe12a5142dff568bbbf33ba0aec32c795bed9d7f36225488a7c", func := "loop.example/dataflow/laws.FnExactValidGraph", spec := "fnExactValidGraph", apart := false }
def FnExactValidGraphSaid : Prop := fnExactValidGraphRow.holds Try.pinned (OpenSpec.ofChange fnExactValidGraphSpec)

/-- ITS FALSE NEIGHBOUR: 'it returns false'. Refute it at one input. -/
def fnExactValidGraphWrong : ChangeSpec := { name := "fnExactValidGraph", fn := fun _ => fun
  | [d1, d2] => { results := [.lit (.bool false)], args := [d1, d2] }
  | _ => none }
def FnExactValidGraphWrongFalsely : Prop := fnExactValidGraphRow.holds Try.pinned (OpenSpec.ofChange fnExactValidGraphWrong)

/-- 'laws.FnValidGraph': WHATEVER THE INPUT: true; the input reads as it did. -/
def fnValidGraphSpec : ChangeSpec := { name := "fnValidGraph", fn := fun _ => fun
  | [d1, d2] => { results := [.lit (.bool true)], args := [d1, d2] }
  | _ => none }
def fnValidGraphRow : OpenClaim := { program := "ytennnifijepfhaa", sum := "f4d43b415c41fbe12a5142dff568bbbf33ba0aec32c795bed9d7f36225488a7c", func := "loop.example/dataflow/laws.FnValidGraph", spec := "fnValidGraph", apart := false }
def FnValidGraphSaid : Prop := fnValidGraphRow.holds Try.pinned (OpenSpec.ofChange fnValidGraphSpec)

/-- ITS FALSE NEIGHBOUR: 'it returns false'. Refute it at one input. -/
def fnValidGraphWrong : ChangeSpec := { name := "fnValidGraph", fn := fun _ => fun
  | [d1, d2] => { results := [.lit (.bool false)], args := [d1, d2] }
  | _ => none }
def FnValidGraphWrongFalsely : Prop := fnValidGraphRow.holds Try.pinned (OpenSpec.ofChange fnValidGraphWrong)

/-- 'laws.FnExactIsLinear': WHATEVER THE INPUT: true; the input reads as it did. -/
def fnExactIsLinearSpec : ChangeSpec := { name := "fnExactIsLinear", fn := fun _ => fun
  | [d] => { results := [.lit (.bool true)], args := [d] }
  | _ => none }
def fnExactIsLinearRow : OpenClaim := { program := "ytennnifijepfhaa", sum := "f4d43b415c41fbe12a5142dff568bbbf33ba0aec32c795bed9d7f36225488a7c", func := "loop.example/dataflow/laws.FnExactIsLinear", spec := "fnExactIsLinear", apart := false }
def FnExactIsLinearSaid : Prop := fnExactIsLinearRow.holds Try.pinned (OpenSpec.ofChange fnExactIsLinearSpec)

/-- ITS FALSE NEIGHBOUR: 'it returns false'. Refute it at one input. -/
def fnExactIsLinearWrong : ChangeSpec := { name := "fnExactIsLinear", fn := fun _ => fun
  | [d] => { results := [.lit (.bool false)], args := [d] }
  | _ => none }
def FnExactIsLinearWrongFalsely : Prop := fnExactIsLinearRow.holds Try.pinned (OpenSpec.ofChange fnExactIsLinearWrong)

/-- 'laws.FnExactIsPositive': WHATEVER THE INPUT: true; the input reads as it did. -/
def fnExactIsPositiveSpec : ChangeSpec := { name := "fnExactIsPositive", fn := fun _ => fun
  | [d] => { results := [.lit (.bool true)], args := [d] }
  | _ => none }
def fnExactIsPositiveRow : OpenClaim := { program := "ytennnifijepfhaa", sum := "f4d43b415c41fbe12a5142dff568bbbf33ba0aec32c795bed9d7f36225488a7c", func := "loop.example/dataflow/laws.FnExactIsPositive", spec := "fnExactIsPositive", apart := false }
def FnExactIsPositiveSaid : Prop := fnExactIsPositiveRow.holds Try.pinned (OpenSpec.ofChange fnExactIsPositiveSpec)

/-- ITS FALSE NEIGHBOUR: 'it returns false'. Refute it at one input. -/
def fnExactIsPositiveWrong : ChangeSpec := { name := "fnExactIsPositive", fn := fun _ => fun
  | [d] => { results := [.lit (.bool false)], args := [d] }
  | _ => none }
def FnExactIsPositiveWrongFalsely : Prop := fnExactIsPositiveRow.holds Try.pinned (OpenSpec.ofChange fnExactIsPositiveWrong)

/-- 'laws.FnExactMinSteps': WHATEVER THE INPUT: true; the input reads as it did. -/
def fnExactMinStepsSpec : ChangeSpec := { name := "fnExactMinSteps", fn := fun _ => fun
  | [d1, d2, d3, d4] => { results := [.lit (.bool true)], args := [d1, d2, d3, d4] }
  | _ => none }
def fnExactMinStepsRow : OpenClaim := { program := "ytennnifijepfhaa", sum := "f4d43b415c41fbe12a5142dff568bbbf33ba0aec32c795bed9d7f36225488a7c", func := "loop.example/dataflow/laws.FnExactMinSteps", spec := "fnExactMinSteps", apart := false }
def FnExactMinStepsSaid : Prop := fnExactMinStepsRow.holds Try.pinned (OpenSpec.ofChange fnExactMinStepsSpec)

/-- ITS FALSE NEIGHBOUR: 'it returns false'. Refute it at one input. -/
def fnExactMinStepsWrong : ChangeSpec := { name := "fnExactMinSteps", fn := fun _ => fun
  | [d1, d2, d3, d4] => { results := [.lit (.bool false)], args := [d1, d2, d3, d4] }
  | _ => none }
def FnExactMinStepsWrongFalsely : Prop := fnExactMinStepsRow.holds Try.pinned (OpenSpec.ofChange fnExactMinStepsWrong)

/-- 'laws.FnMinSteps': WHATEVER THE INPUT: true; the input reads as it did. -/
def fnMinStepsSpec : ChangeSpec := { name := "fnMinSteps", fn := fun _ => fun
  | [d] => { results := [.lit (.bool true)], args := [d] }
  | _ => none }
def fnMinStepsRow : OpenClaim := { program := "ytennnifijepfhaa", sum := "f4d43b415c41fbe12a5142dff568bbbf33ba0aec32c795bed9d7f36225488a7c", func := "loop.example/dataflow/laws.FnMinSteps", spec := "fnMinSteps", apart := false }
def FnMinStepsSaid : Prop := fnMinStepsRow.holds Try.pinned (OpenSpec.ofChange fnMinStepsSpec)

/-- ITS FALSE NEIGHBOUR: 'it returns false'. Refute it at one input. -/
def fnMinStepsWrong : ChangeSpec := { name := "fnMinSteps", fn := fun _ => fun
  | [d] => { results := [.lit (.bool false)], args := [d] }
  | _ => none }
def FnMinStepsWrongFalsely : Prop := fnMinStepsRow.holds Try.pinned (OpenSpec.ofChange fnMinStepsWrong)

/-- 'laws.FnStrata': WHATEVER THE INPUT: true; the input reads as it did. -/
def fnStrataSpec : ChangeSpec := { name := "fnStrata", fn := fun _ => fun
  | [d] => { results := [.lit (.bool true)], args := [d] }
  | _ => none }
def fnStrataRow : OpenClaim := { program := "ytennnifijepfhaa", sum := "f4d43b415c41fbe12a5142dff568bbbf33ba0aec32c795bed9d7f36225488a7c", func := "loop.example/dataflow/laws.FnStrata", spec := "fnStrata", apart := false }
def FnStrataSaid : Prop := fnStrataRow.holds Try.pinned (OpenSpec.ofChange fnStrataSpec)

/-- ITS FALSE NEIGHBOUR: 'it returns false'. Refute it at one input. -/
def fnStrataWrong : ChangeSpec := { name := "fnStrata", fn := fun _ => fun
  | [d] => { results := [.lit (.bool false)], args := [d] }
  | _ => none }
def FnStrataWrongFalsely : Prop := fnStrataRow.holds Try.pinned (OpenSpec.ofChange fnStrataWrong)

/-- 'laws.FnExactValidFacts': WHATEVER THE INPUT: true; the input reads as it did. -/
def fnExactValidFactsSpec : ChangeSpec := { name := "fnExactValidFacts", fn := fun _ => fun
  | [d] => { results := [.lit (.bool true)], args := [d] }
  | _ => none }
def fnExactValidFactsRow : OpenClaim := { program := "ytennnifijepfhaa", sum := "f4d43b415c41fbe12a5142dff568bbbf33ba0aec32c795bed9d7f36225488a7c", func := "loop.example/dataflow/laws.FnExactValidFacts", spec := "fnExactValidFacts", apart := false }
def FnExactValidFactsSaid : Prop := fnExactValidFactsRow.holds Try.pinned (OpenSpec.ofChange fnExactValidFactsSpec)

/-- ITS FALSE NEIGHBOUR: 'it returns false'. Refute it at one input. -/
def fnExactValidFactsWrong : ChangeSpec := { name := "fnExactValidFacts", fn := fun _ => fun
  | [d] => { results := [.lit (.bool false)], args := [d] }
  | _ => none }
def FnExactValidFactsWrongFalsely : Prop := fnExactValidFactsRow.holds Try.pinned (OpenSpec.ofChange fnExactValidFactsWrong)

/-- 'laws.FnExactValidEdges': WHATEVER THE INPUT: true; the input reads as it did. -/
def fnExactValidEdgesSpec : ChangeSpec := { name := "fnExactValidEdges", fn := fun _ => fun
  | [d] => { results := [.lit (.bool true)], args := [d] }
  | _ => none }
def fnExactValidEdgesRow : OpenClaim := { program := "ytennnifijepfhaa", sum := "f4d43b415c41fbe12a5142dff568bbbf33ba0aec32c795bed9d7f36225488a7c", func := "loop.example/dataflow/laws.FnExactValidEdges", spec := "fnExactValidEdges", apart := false }
def FnExactValidEdgesSaid : Prop := fnExactValidEdgesRow.holds Try.pinned (OpenSpec.ofChange fnExactValidEdgesSpec)

/-- ITS FALSE NEIGHBOUR: 'it returns false'. Refute it at one input. -/
def fnExactValidEdgesWrong : ChangeSpec := { name := "fnExactValidEdges", fn := fun _ => fun
  | [d] => { results := [.lit (.bool false)], args := [d] }
  | _ => none }
def FnExactValidEdgesWrongFalsely : Prop := fnExactValidEdgesRow.holds Try.pinned (OpenSpec.ofChange fnExactValidEdgesWrong)

/-- 'laws.FnExactValidProgram': WHATEVER THE INPUT: true; the input reads as it did. -/
def fnExactValidProgramSpec : ChangeSpec := { name := "fnExactValidProgram", fn := fun _ => fun
  | [d] => { results := [.lit (.bool true)], args := [d] }
  | _ => none }
def fnExactValidProgramRow : OpenClaim := { program := "ytennnifijepfhaa", sum := "f4d43b415c41fbe12a5142dff568bbbf33ba0aec32c795bed9d7f36225488a7c", func := "loop.example/dataflow/laws.FnExactValidProgram", spec := "fnExactValidProgram", apart := false }
def FnExactValidProgramSaid : Prop := fnExactValidProgramRow.holds Try.pinned (OpenSpec.ofChange fnExactValidProgramSpec)

/-- ITS FALSE NEIGHBOUR: 'it returns false'. Refute it at one input. -/
def fnExactValidProgramWrong : ChangeSpec := { name := "fnExactValidProgram", fn := fun _ => fun
  | [d] => { results := [.lit (.bool false)], args := [d] }
  | _ => none }
def FnExactValidProgramWrongFalsely : Prop := fnExactValidProgramRow.holds Try.pinned (OpenSpec.ofChange fnExactValidProgramWrong)

/- THE SECOND FORM. 'bulk': how many values and letters a reading holds, each counted each time it is reached (what is shared counts as often as it is met; a slice's spare places count too). A statement '..UptoSaid' is the law's where the arguments, and the package variables that the reading takes, are together of bulk at most 1048576: NARROWER than '..Said'. Prove '..Said' where nothing that the law and all that it calls make is longer than what came in: it says more and counts as full. Else prove '..UptoSaid'. A law counts once. -/
mutual
def uptoBulk {H : Type} : DataW H → Nat
  | .lit (.string bytes) => bytes.length + 1
  | .lit _ => 1
  | .nil => 1
  | .ptr d => uptoBulk d + 1
  | .slice elems spare => uptoBulkAll elems + uptoBulkAll spare + 1
  | .agg parts => uptoBulkAll parts + 1
  | .iface _ d => uptoBulk d + 1
  | .map entries => uptoBulkEntries entries + 1
  | .held _ => 1
def uptoBulkAll {H : Type} : List (DataW H) → Nat
  | [] => 0
  | d :: r => uptoBulk d + uptoBulkAll r
def uptoBulkEntries {H : Type} : List (Lit × DataW H) → Nat
  | [] => 0
  | x :: r => uptoBulkEntry x + uptoBulkEntries r
def uptoBulkEntry {H : Type} : Lit × DataW H → Nat
  | (.string bytes, d) => bytes.length + uptoBulk d + 1
  | (_, d) => uptoBulk d + 1
 end
def uptoSmall : (H : Type) → List (DataW H) → Bool := fun _ ds => decide (uptoBulkAll ds ≤ 1048576)
def OpenSpec.upto (s : _root_.Go.ChangeSpec) : _root_.Go.OpenSpec := { _root_.Go.OpenSpec.ofChange s with cond := some uptoSmall }

/-- 'laws.FnExactShardOf', WHERE WHAT IT READS IS OF BULK AT MOST 1048576: true; the input reads as it did. -/
def fnExactShardOfUptoRow : OpenClaim := { program := "ytennnifijepfhaa", sum := "f4d43b415c41fbe12a5142dff568bbbf33ba0aec32c795bed9d7f36225488a7c", func := "loop.example/dataflow/laws.FnExactShardOf", spec := "fnExactShardOf", apart := false, narrowed := true }
def FnExactShardOfUptoSaid : Prop := fnExactShardOfUptoRow.holds Try.pinned (OpenSpec.upto fnExactShardOfSpec)

/-- 'laws.FnShardOf', WHERE WHAT IT READS IS OF BULK AT MOST 1048576: true; the input reads as it did. -/
def fnShardOfUptoRow : OpenClaim := { program := "ytennnifijepfhaa", sum := "f4d43b415c41fbe12a5142dff568bbbf33ba0aec32c795bed9d7f36225488a7c", func := "loop.example/dataflow/laws.FnShardOf", spec := "fnShardOf", apart := false, narrowed := true }
def FnShardOfUptoSaid : Prop := fnShardOfUptoRow.holds Try.pinned (OpenSpec.upto fnShardOfSpec)

/-- 'laws.FnExactValidGraph', WHERE WHAT IT READS IS OF BULK AT MOST 1048576: true; the input reads as it did. -/
def fnExactValidGraphUptoRow : OpenClaim := { program := "ytennnifijepfhaa", sum := "f4d43b415c41fbe12a5142dff568bbbf33ba0aec32c795bed9d7f36225488a7c", func := "loop.example/dataflow/laws.FnExactValidGraph", spec := "fnExactValidGraph", apart := false, narrowed := true }
def FnExactValidGraphUptoSaid : Prop := fnExactValidGraphUptoRow.holds Try.pinned (OpenSpec.upto fnExactValidGraphSpec)

/-- 'laws.FnValidGraph', WHERE WHAT IT READS IS OF BULK AT MOST 1048576: true; the input reads as it did. -/
def fnValidGraphUptoRow : OpenClaim := { program := "ytennnifijepfhaa", sum := "f4d43b415c41fbe12a5142dff568bbbf33ba0aec32c795bed9d7f36225488a7c", func := "loop.example/dataflow/laws.FnValidGraph", spec := "fnValidGraph", apart := false, narrowed := true }
def FnValidGraphUptoSaid : Prop := fnValidGraphUptoRow.holds Try.pinned (OpenSpec.upto fnValidGraphSpec)

/-- 'laws.FnExactIsLinear', WHERE WHAT IT READS IS OF BULK AT MOST 1048576: true; the input reads as it did. -/
def fnExactIsLinearUptoRow : OpenClaim := { program := "ytennnifijepfhaa", sum := "f4d43b415c41fbe12a5142dff568bbbf33ba0aec32c795bed9d7f36225488a7c", func := "loop.example/dataflow/laws.FnExactIsLinear", spec := "fnExactIsLinear", apart := false, narrowed := true }
def FnExactIsLinearUptoSaid : Prop := fnExactIsLinearUptoRow.holds Try.pinned (OpenSpec.upto fnExactIsLinearSpec)

/-- 'laws.FnExactIsPositive', WHERE WHAT IT READS IS OF BULK AT MOST 1048576: true; the input reads as it did. -/
def fnExactIsPositiveUptoRow : OpenClaim := { program := "ytennnifijepfhaa", sum := "f4d43b415c41fbe12a5142dff568bbbf33ba0aec32c795bed9d7f36225488a7c", func := "loop.example/dataflow/laws.FnExactIsPositive", spec := "fnExactIsPositive", apart := false, narrowed := true }
def FnExactIsPositiveUptoSaid : Prop := fnExactIsPositiveUptoRow.holds Try.pinned (OpenSpec.upto fnExactIsPositiveSpec)

/-- 'laws.FnExactMinSteps', WHERE WHAT IT READS IS OF BULK AT MOST 1048576: true; the input reads as it did. -/
def fnExactMinStepsUptoRow : OpenClaim := { program := "ytennnifijepfhaa", sum := "f4d43b415c41fbe12a5142dff568bbbf33ba0aec32c795bed9d7f36225488a7c", func := "loop.example/dataflow/laws.FnExactMinSteps", spec := "fnExactMinSteps", apart := false, narrowed := true }
def FnExactMinStepsUptoSaid : Prop := fnExactMinStepsUptoRow.holds Try.pinned (OpenSpec.upto fnExactMinStepsSpec)

/-- 'laws.FnMinSteps', WHERE WHAT IT READS IS OF BULK AT MOST 1048576: true; the input reads as it did. -/
def fnMinStepsUptoRow : OpenClaim := { program := "ytennnifijepfhaa", sum := "f4d43b415c41fbe12a5142dff568bbbf33ba0aec32c795bed9d7f36225488a7c", func := "loop.example/dataflow/laws.FnMinSteps", spec := "fnMinSteps", apart := false, narrowed := true }
def FnMinStepsUptoSaid : Prop := fnMinStepsUptoRow.holds Try.pinned (OpenSpec.upto fnMinStepsSpec)

/-- 'laws.FnStrata', WHERE WHAT IT READS IS OF BULK AT MOST 1048576: true; the input reads as it did. -/
def fnStrataUptoRow : OpenClaim := { program := "ytennnifijepfhaa", sum := "f4d43b415c41fbe12a5142dff568bbbf33ba0aec32c795bed9d7f36225488a7c", func := "loop.example/dataflow/laws.FnStrata", spec := "fnStrata", apart := false, narrowed := true }
def FnStrataUptoSaid : Prop := fnStrataUptoRow.holds Try.pinned (OpenSpec.upto fnStrataSpec)

/-- 'laws.FnExactValidFacts', WHERE WHAT IT READS IS OF BULK AT MOST 1048576: true; the input reads as it did. -/
def fnExactValidFactsUptoRow : OpenClaim := { program := "ytennnifijepfhaa", sum := "f4d43b415c41fbe12a5142dff568bbbf33ba0aec32c795bed9d7f36225488a7c", func := "loop.example/dataflow/laws.FnExactValidFacts", spec := "fnExactValidFacts", apart := false, narrowed := true }
def FnExactValidFactsUptoSaid : Prop := fnExactValidFactsUptoRow.holds Try.pinned (OpenSpec.upto fnExactValidFactsSpec)

/-- 'laws.FnExactValidEdges', WHERE WHAT IT READS IS OF BULK AT MOST 1048576: true; the input reads as it did. -/
def fnExactValidEdgesUptoRow : OpenClaim := { program := "ytennnifijepfhaa", sum := "f4d43b415c41fbe12a5142dff568bbbf33ba0aec32c795bed9d7f36225488a7c", func := "loop.example/dataflow/laws.FnExactValidEdges", spec := "fnExactValidEdges", apart := false, narrowed := true }
def FnExactValidEdgesUptoSaid : Prop := fnExactValidEdgesUptoRow.holds Try.pinned (OpenSpec.upto fnExactValidEdgesSpec)

/-- 'laws.FnExactValidProgram', WHERE WHAT IT READS IS OF BULK AT MOST 1048576: true; the input reads as it did. -/
def fnExactValidProgramUptoRow : OpenClaim := { program := "ytennnifijepfhaa", sum := "f4d43b415c41fbe12a5142dff568bbbf33ba0aec32c795bed9d7f36225488a7c", func := "loop.example/dataflow/laws.FnExactValidProgram", spec := "fnExactValidProgram", apart := false, narrowed := true }
def FnExactValidProgramUptoSaid : Prop := fnExactValidProgramUptoRow.holds Try.pinned (OpenSpec.upto fnExactValidProgramSpec)

end Rows
end Go.Proofs.Ytennnifijepfhaa
