/-
  No cell of these rows narrows 'for every input' (looked for: loops, veiled, ifaces, maps, wideKeys, modest, calm, conditions, laid).
  DERIVED. THE GIVEN ROWS OF THIS SEAT. 12 by the template 'for every input the law returns true; each argument reads behind the call as it read before'; 0 by the template 'total and deterministic' (their statements: YtjfhlhhobpdneaaTotals.lean).
  GIVEN WITH THE SEED: the statements are not yours to turn. If you find one false, say at which input.
  Laid BY PROGRAM, IN A SANDBOX (cutbox-rows.mjs): the forced cells as the released guide's own fill.sh prints them over the translation 5208bdb6ef7e9137… (all of the seat's roots in one cut). By AI agents, Wed Nov 11 2026. No macro, syntax, notation, axiom, sorry.
-/
import Derived.Test.YtjfhlhhobpdneaaChecked
import GoSem.Claim
import GoSem.ClaimJoined
import GoSem.ClaimMapViews
import Derived.JoinedTies
import Derived.KernelRfl
namespace Go.Proofs.Ytjfhlhhobpdneaa
/- THE CELL 'sum', in the pinned program and in every row, IS THE sha256 OF THE DUMP (.gsa) THAT YtjfhlhhobpdneaaProg.lean LOADS. Nothing in Lean hashes anything: it is a label: what it is worth is what the hold of that sum in a sandbox is worth. -/
noncomputable def Try.pinned : Pinned := { name := "ytjfhlhhobpdneaa", sum := "5208bdb6ef7e913740823ae14ae2ee68b2a7ac55136fcdc47bebd2f859f0aa91", checked := Try.checked }
namespace Rows
def none {H : Type} : Left H := { results := [], args := [] }

/-- 'laws.FnExactRuleHolds': WHATEVER THE INPUT: true; the input reads as it did. -/
def fnExactRuleHoldsSpec : ChangeSpec := { name := "fnExactRuleHolds", fn := fun _ => fun
  | [d1, d2] => { results := [.lit (.bool true)], args := [d1, d2] }
  | _ => none }
def fnExactRuleHoldsRow : OpenClaim := { program := "ytjfhlhhobpdneaa", sum := "5208bdb6ef7e913740823ae14ae2ee68b2a7ac55136fcdc47bebd2f859f0aa91", func := "loop.example/g01923/laws.FnExactRuleHolds", spec := "fnExactRuleHolds", unfollowed := true, recurses := true, apart := false }
def FnExactRuleHoldsSaid : Prop := fnExactRuleHoldsRow.holds Try.pinned (OpenSpec.ofChange fnExactRuleHoldsSpec)

/-- ITS FALSE NEIGHBOUR: 'it returns false'. Refute it at one input. -/
def fnExactRuleHoldsWrong : ChangeSpec := { name := "fnExactRuleHolds", fn := fun _ => fun
  | [d1, d2] => { results := [.lit (.bool false)], args := [d1, d2] }
  | _ => none }
def FnExactRuleHoldsWrongFalsely : Prop := fnExactRuleHoldsRow.holds Try.pinned (OpenSpec.ofChange fnExactRuleHoldsWrong)

/-- 'laws.FnExactIsValidDiagram': WHATEVER THE INPUT: true; the input reads as it did. -/
def fnExactIsValidDiagramSpec : ChangeSpec := { name := "fnExactIsValidDiagram", fn := fun _ => fun
  | [d] => { results := [.lit (.bool true)], args := [d] }
  | _ => none }
def fnExactIsValidDiagramRow : OpenClaim := { program := "ytjfhlhhobpdneaa", sum := "5208bdb6ef7e913740823ae14ae2ee68b2a7ac55136fcdc47bebd2f859f0aa91", func := "loop.example/g01923/laws.FnExactIsValidDiagram", spec := "fnExactIsValidDiagram", apart := false }
def FnExactIsValidDiagramSaid : Prop := fnExactIsValidDiagramRow.holds Try.pinned (OpenSpec.ofChange fnExactIsValidDiagramSpec)

/-- ITS FALSE NEIGHBOUR: 'it returns false'. Refute it at one input. -/
def fnExactIsValidDiagramWrong : ChangeSpec := { name := "fnExactIsValidDiagram", fn := fun _ => fun
  | [d] => { results := [.lit (.bool false)], args := [d] }
  | _ => none }
def FnExactIsValidDiagramWrongFalsely : Prop := fnExactIsValidDiagramRow.holds Try.pinned (OpenSpec.ofChange fnExactIsValidDiagramWrong)

/-- 'laws.FnExactPairScore': WHATEVER THE INPUT: true; the input reads as it did. -/
def fnExactPairScoreSpec : ChangeSpec := { name := "fnExactPairScore", fn := fun _ => fun
  | [d1, d2] => { results := [.lit (.bool true)], args := [d1, d2] }
  | _ => none }
def fnExactPairScoreRow : OpenClaim := { program := "ytjfhlhhobpdneaa", sum := "5208bdb6ef7e913740823ae14ae2ee68b2a7ac55136fcdc47bebd2f859f0aa91", func := "loop.example/g01923/laws.FnExactPairScore", spec := "fnExactPairScore", unfollowed := true, recurses := true, apart := false }
def FnExactPairScoreSaid : Prop := fnExactPairScoreRow.holds Try.pinned (OpenSpec.ofChange fnExactPairScoreSpec)

/-- ITS FALSE NEIGHBOUR: 'it returns false'. Refute it at one input. -/
def fnExactPairScoreWrong : ChangeSpec := { name := "fnExactPairScore", fn := fun _ => fun
  | [d1, d2] => { results := [.lit (.bool false)], args := [d1, d2] }
  | _ => none }
def FnExactPairScoreWrongFalsely : Prop := fnExactPairScoreRow.holds Try.pinned (OpenSpec.ofChange fnExactPairScoreWrong)

/-- 'laws.FnExactIsValidRules': WHATEVER THE INPUT: true; the input reads as it did. -/
def fnExactIsValidRulesSpec : ChangeSpec := { name := "fnExactIsValidRules", fn := fun _ => fun
  | [d] => { results := [.lit (.bool true)], args := [d] }
  | _ => none }
def fnExactIsValidRulesRow : OpenClaim := { program := "ytjfhlhhobpdneaa", sum := "5208bdb6ef7e913740823ae14ae2ee68b2a7ac55136fcdc47bebd2f859f0aa91", func := "loop.example/g01923/laws.FnExactIsValidRules", spec := "fnExactIsValidRules", apart := false }
def FnExactIsValidRulesSaid : Prop := fnExactIsValidRulesRow.holds Try.pinned (OpenSpec.ofChange fnExactIsValidRulesSpec)

/-- ITS FALSE NEIGHBOUR: 'it returns false'. Refute it at one input. -/
def fnExactIsValidRulesWrong : ChangeSpec := { name := "fnExactIsValidRules", fn := fun _ => fun
  | [d] => { results := [.lit (.bool false)], args := [d] }
  | _ => none }
def FnExactIsValidRulesWrongFalsely : Prop := fnExactIsValidRulesRow.holds Try.pinned (OpenSpec.ofChange fnExactIsValidRulesWrong)

/-- 'laws.FnExactEvaluateDiagram': WHATEVER THE INPUT: true; the input reads as it did. -/
def fnExactEvaluateDiagramSpec : ChangeSpec := { name := "fnExactEvaluateDiagram", fn := fun _ => fun
  | [d1, d2] => { results := [.lit (.bool true)], args := [d1, d2] }
  | _ => none }
def fnExactEvaluateDiagramRow : OpenClaim := { program := "ytjfhlhhobpdneaa", sum := "5208bdb6ef7e913740823ae14ae2ee68b2a7ac55136fcdc47bebd2f859f0aa91", func := "loop.example/g01923/laws.FnExactEvaluateDiagram", spec := "fnExactEvaluateDiagram", unfollowed := true, recurses := true, apart := false }
def FnExactEvaluateDiagramSaid : Prop := fnExactEvaluateDiagramRow.holds Try.pinned (OpenSpec.ofChange fnExactEvaluateDiagramSpec)

/-- ITS FALSE NEIGHBOUR: 'it returns false'. Refute it at one input. -/
def fnExactEvaluateDiagramWrong : ChangeSpec := { name := "fnExactEvaluateDiagram", fn := fun _ => fun
  | [d1, d2] => { results := [.lit (.bool false)], args := [d1, d2] }
  | _ => none }
def FnExactEvaluateDiagramWrongFalsely : Prop := fnExactEvaluateDiagramRow.holds Try.pinned (OpenSpec.ofChange fnExactEvaluateDiagramWrong)

/-- 'laws.FnExactTestsEvaluated': WHATEVER THE INPUT: true; the input reads as it did. -/
def fnExactTestsEvaluatedSpec : ChangeSpec := { name := "fnExactTestsEvaluated", fn := fun _ => fun
  | [d1, d2] => { results := [.lit (.bool true)], args := [d1, d2] }
  | _ => none }
def fnExactTestsEvaluatedRow : OpenClaim := { program := "ytjfhlhhobpdneaa", sum := "5208bdb6ef7e913740823ae14ae2ee68b2a7ac55136fcdc47bebd2f859f0aa91", func := "loop.example/g01923/laws.FnExactTestsEvaluated", spec := "fnExactTestsEvaluated", unfollowed := true, recurses := true, apart := false }
def FnExactTestsEvaluatedSaid : Prop := fnExactTestsEvaluatedRow.holds Try.pinned (OpenSpec.ofChange fnExactTestsEvaluatedSpec)

/-- ITS FALSE NEIGHBOUR: 'it returns false'. Refute it at one input. -/
def fnExactTestsEvaluatedWrong : ChangeSpec := { name := "fnExactTestsEvaluated", fn := fun _ => fun
  | [d1, d2] => { results := [.lit (.bool false)], args := [d1, d2] }
  | _ => none }
def FnExactTestsEvaluatedWrongFalsely : Prop := fnExactTestsEvaluatedRow.holds Try.pinned (OpenSpec.ofChange fnExactTestsEvaluatedWrong)

/-- 'laws.FnExactFirstRule': WHATEVER THE INPUT: true; the input reads as it did. -/
def fnExactFirstRuleSpec : ChangeSpec := { name := "fnExactFirstRule", fn := fun _ => fun
  | [d1, d2] => { results := [.lit (.bool true)], args := [d1, d2] }
  | _ => none }
def fnExactFirstRuleRow : OpenClaim := { program := "ytjfhlhhobpdneaa", sum := "5208bdb6ef7e913740823ae14ae2ee68b2a7ac55136fcdc47bebd2f859f0aa91", func := "loop.example/g01923/laws.FnExactFirstRule", spec := "fnExactFirstRule", unfollowed := true, recurses := true, apart := false }
def FnExactFirstRuleSaid : Prop := fnExactFirstRuleRow.holds Try.pinned (OpenSpec.ofChange fnExactFirstRuleSpec)

/-- ITS FALSE NEIGHBOUR: 'it returns false'. Refute it at one input. -/
def fnExactFirstRuleWrong : ChangeSpec := { name := "fnExactFirstRule", fn := fun _ => fun
  | [d1, d2] => { results := [.lit (.bool false)], args := [d1, d2] }
  | _ => none }
def FnExactFirstRuleWrongFalsely : Prop := fnExactFirstRuleRow.holds Try.pinned (OpenSpec.ofChange fnExactFirstRuleWrong)

/-- 'laws.FnExactRulesHold': WHATEVER THE INPUT: true; the input reads as it did. -/
def fnExactRulesHoldSpec : ChangeSpec := { name := "fnExactRulesHold", fn := fun _ => fun
  | [d1, d2] => { results := [.lit (.bool true)], args := [d1, d2] }
  | _ => none }
def fnExactRulesHoldRow : OpenClaim := { program := "ytjfhlhhobpdneaa", sum := "5208bdb6ef7e913740823ae14ae2ee68b2a7ac55136fcdc47bebd2f859f0aa91", func := "loop.example/g01923/laws.FnExactRulesHold", spec := "fnExactRulesHold", unfollowed := true, recurses := true, apart := false }
def FnExactRulesHoldSaid : Prop := fnExactRulesHoldRow.holds Try.pinned (OpenSpec.ofChange fnExactRulesHoldSpec)

/-- ITS FALSE NEIGHBOUR: 'it returns false'. Refute it at one input. -/
def fnExactRulesHoldWrong : ChangeSpec := { name := "fnExactRulesHold", fn := fun _ => fun
  | [d1, d2] => { results := [.lit (.bool false)], args := [d1, d2] }
  | _ => none }
def FnExactRulesHoldWrongFalsely : Prop := fnExactRulesHoldRow.holds Try.pinned (OpenSpec.ofChange fnExactRulesHoldWrong)

/-- 'laws.FnExactDiagramVariables': WHATEVER THE INPUT: true; the input reads as it did. -/
def fnExactDiagramVariablesSpec : ChangeSpec := { name := "fnExactDiagramVariables", fn := fun _ => fun
  | [d] => { results := [.lit (.bool true)], args := [d] }
  | _ => none }
def fnExactDiagramVariablesRow : OpenClaim := { program := "ytjfhlhhobpdneaa", sum := "5208bdb6ef7e913740823ae14ae2ee68b2a7ac55136fcdc47bebd2f859f0aa91", func := "loop.example/g01923/laws.FnExactDiagramVariables", spec := "fnExactDiagramVariables", unfollowed := true, recurses := true, apart := false }
def FnExactDiagramVariablesSaid : Prop := fnExactDiagramVariablesRow.holds Try.pinned (OpenSpec.ofChange fnExactDiagramVariablesSpec)

/-- ITS FALSE NEIGHBOUR: 'it returns false'. Refute it at one input. -/
def fnExactDiagramVariablesWrong : ChangeSpec := { name := "fnExactDiagramVariables", fn := fun _ => fun
  | [d] => { results := [.lit (.bool false)], args := [d] }
  | _ => none }
def FnExactDiagramVariablesWrongFalsely : Prop := fnExactDiagramVariablesRow.holds Try.pinned (OpenSpec.ofChange fnExactDiagramVariablesWrong)

/-- 'laws.FnExactIsMonotone': WHATEVER THE INPUT: true; the input reads as it did. -/
def fnExactIsMonotoneSpec : ChangeSpec := { name := "fnExactIsMonotone", fn := fun _ => fun
  | [d] => { results := [.lit (.bool true)], args := [d] }
  | _ => none }
def fnExactIsMonotoneRow : OpenClaim := { program := "ytjfhlhhobpdneaa", sum := "5208bdb6ef7e913740823ae14ae2ee68b2a7ac55136fcdc47bebd2f859f0aa91", func := "loop.example/g01923/laws.FnExactIsMonotone", spec := "fnExactIsMonotone", unfollowed := true, recurses := true, apart := false }
def FnExactIsMonotoneSaid : Prop := fnExactIsMonotoneRow.holds Try.pinned (OpenSpec.ofChange fnExactIsMonotoneSpec)

/-- ITS FALSE NEIGHBOUR: 'it returns false'. Refute it at one input. -/
def fnExactIsMonotoneWrong : ChangeSpec := { name := "fnExactIsMonotone", fn := fun _ => fun
  | [d] => { results := [.lit (.bool false)], args := [d] }
  | _ => none }
def FnExactIsMonotoneWrongFalsely : Prop := fnExactIsMonotoneRow.holds Try.pinned (OpenSpec.ofChange fnExactIsMonotoneWrong)

/-- 'laws.FnExactMonotoneViolation': WHATEVER THE INPUT: true; the input reads as it did. -/
def fnExactMonotoneViolationSpec : ChangeSpec := { name := "fnExactMonotoneViolation", fn := fun _ => fun
  | [d] => { results := [.lit (.bool true)], args := [d] }
  | _ => none }
def fnExactMonotoneViolationRow : OpenClaim := { program := "ytjfhlhhobpdneaa", sum := "5208bdb6ef7e913740823ae14ae2ee68b2a7ac55136fcdc47bebd2f859f0aa91", func := "loop.example/g01923/laws.FnExactMonotoneViolation", spec := "fnExactMonotoneViolation", unfollowed := true, recurses := true, apart := false }
def FnExactMonotoneViolationSaid : Prop := fnExactMonotoneViolationRow.holds Try.pinned (OpenSpec.ofChange fnExactMonotoneViolationSpec)

/-- ITS FALSE NEIGHBOUR: 'it returns false'. Refute it at one input. -/
def fnExactMonotoneViolationWrong : ChangeSpec := { name := "fnExactMonotoneViolation", fn := fun _ => fun
  | [d] => { results := [.lit (.bool false)], args := [d] }
  | _ => none }
def FnExactMonotoneViolationWrongFalsely : Prop := fnExactMonotoneViolationRow.holds Try.pinned (OpenSpec.ofChange fnExactMonotoneViolationWrong)

/-- 'laws.FnExactBuildDiagram': WHATEVER THE INPUT: true; the input reads as it did. -/
def fnExactBuildDiagramSpec : ChangeSpec := { name := "fnExactBuildDiagram", fn := fun _ => fun
  | [d] => { results := [.lit (.bool true)], args := [d] }
  | _ => none }
def fnExactBuildDiagramRow : OpenClaim := { program := "ytjfhlhhobpdneaa", sum := "5208bdb6ef7e913740823ae14ae2ee68b2a7ac55136fcdc47bebd2f859f0aa91", func := "loop.example/g01923/laws.FnExactBuildDiagram", spec := "fnExactBuildDiagram", unfollowed := true, recurses := true, apart := false }
def FnExactBuildDiagramSaid : Prop := fnExactBuildDiagramRow.holds Try.pinned (OpenSpec.ofChange fnExactBuildDiagramSpec)

/-- ITS FALSE NEIGHBOUR: 'it returns false'. Refute it at one input. -/
def fnExactBuildDiagramWrong : ChangeSpec := { name := "fnExactBuildDiagram", fn := fun _ => fun
  | [d] => { results := [.lit (.bool false)], args := [d] }
  | _ => none }
def FnExactBuildDiagramWrongFalsely : Prop := fnExactBuildDiagramRow.holds Try.pinned (OpenSpec.ofChange fnExactBuildDiagramWrong)

/- THE SECOND FORM. 'bulk': how many values and letters a reading holds, each counted each time it is reached (what is shared counts as often as it is met; a slice's spare places count too). A statement '..UptoSaid' is the law's where the arguments, and the package variables that the reading takes, are together of bulk at most 1048576: NARROWER than '..Said'. Prove '..Said' where nothing that the law and all that it calls make is longer than what came in: it says more and counts as full. Else prove '..UptoSaid'. A law counts once. -/
mutual
def uptoBulk {H : Type} : DataW H → Nat
  | .lit (.string bytes) => bytes.length + 1
  | .lit _ => 1
  | .nil => 1
  | .ptr d => uptoBulk d + 1
  | .slice elems spare => uptoBulkAll elems + uptoBulkAll spare + 1
  | .agg parts => uptoBulkAll parts + 1
  | .iface _ d => uptoBulk d + 1
  | .map entries => uptoBulkEntries entries + 1
  | .held _ => 1
def uptoBulkAll {H : Type} : List (DataW H) → Nat
  | [] => 0
  | d :: r => uptoBulk d + uptoBulkAll r
def uptoBulkEntries {H : Type} : List (Lit × DataW H) → Nat
  | [] => 0
  | x :: r => uptoBulkEntry x + uptoBulkEntries r
def uptoBulkEntry {H : Type} : Lit × DataW H → Nat
  | (.string bytes, d) => bytes.length + uptoBulk d + 1
  | (_, d) => uptoBulk d + 1
 end
def uptoSmall : (H : Type) → List (DataW H) → Bool := fun _ ds => decide (uptoBulkAll ds ≤ 1048576)
def OpenSpec.upto (s : _root_.Go.ChangeSpec) : _root_.Go.OpenSpec := { _root_.Go.OpenSpec.ofChange s with cond := some uptoSmall }

/-- 'laws.FnExactRuleHolds', WHERE WHAT IT READS IS OF BULK AT MOST 1048576: true; the input reads as it did. -/
def fnExactRuleHoldsUptoRow : OpenClaim := { program := "ytjfhlhhobpdneaa", sum := "5208bdb6ef7e913740823ae14ae2ee68b2a7ac55136fcdc47bebd2f859f0aa91", func := "loop.example/g01923/laws.FnExactRuleHolds", spec := "fnExactRuleHolds", unfollowed := true, recurses := true, apart := false, narrowed := true }
def FnExactRuleHoldsUptoSaid : Prop := fnExactRuleHoldsUptoRow.holds Try.pinned (OpenSpec.upto fnExactRuleHoldsSpec)

/-- 'laws.FnExactIsValidDiagram', WHERE WHAT IT READS IS OF BULK AT MOST 1048576: true; the input reads as it did. -/
def fnExactIsValidDiagramUptoRow : OpenClaim := { program := "ytjfhlhhobpdneaa", sum := "5208bdb6ef7e913740823ae14ae2ee68b2a7ac55136fcdc47bebd2f859f0aa91", func := "loop.example/g01923/laws.FnExactIsValidDiagram", spec := "fnExactIsValidDiagram", apart := false, narrowed := true }
def FnExactIsValidDiagramUptoSaid : Prop := fnExactIsValidDiagramUptoRow.holds Try.pinned (OpenSpec.upto fnExactIsValidDiagramSpec)

/-- 'laws.FnExactPairScore', WHERE WHAT IT READS IS OF BULK AT MOST 1048576: true; the input reads as it did. -/
def fnExactPairScoreUptoRow : OpenClaim := { program := "ytjfhlhhobpdneaa", sum := "5208bdb6ef7e913740823ae14ae2ee68b2a7ac55136fcdc47bebd2f859f0aa91", func := "loop.example/g01923/laws.FnExactPairScore", spec := "fnExactPairScore", unfollowed := true, recurses := true, apart := false, narrowed := true }
def FnExactPairScoreUptoSaid : Prop := fnExactPairScoreUptoRow.holds Try.pinned (OpenSpec.upto fnExactPairScoreSpec)

/-- 'laws.FnExactIsValidRules', WHERE WHAT IT READS IS OF BULK AT MOST 1048576: true; the input reads as it did. -/
def fnExactIsValidRulesUptoRow : OpenClaim := { program := "ytjfhlhhobpdneaa", sum := "5208bdb6ef7e913740823ae14ae2ee68b2a7ac55136fcdc47bebd2f859f0aa91", func := "loop.example/g01923/laws.FnExactIsValidRules", spec := "fnExactIsValidRules", apart := false, narrowed := true }
def FnExactIsValidRulesUptoSaid : Prop := fnExactIsValidRulesUptoRow.holds Try.pinned (OpenSpec.upto fnExactIsValidRulesSpec)

/-- 'laws.FnExactEvaluateDiagram', WHERE WHAT IT READS IS OF BULK AT MOST 1048576: true; the input reads as it did. -/
def fnExactEvaluateDiagramUptoRow : OpenClaim := { program := "ytjfhlhhobpdneaa", sum := "5208bdb6ef7e913740823ae14ae2ee68b2a7ac55136fcdc47bebd2f859f0aa91", func := "loop.example/g01923/laws.FnExactEvaluateDiagram", spec := "fnExactEvaluateDiagram", unfollowed := true, recurses := true, apart := false, narrowed := true }
def FnExactEvaluateDiagramUptoSaid : Prop := fnExactEvaluateDiagramUptoRow.holds Try.pinned (OpenSpec.upto fnExactEvaluateDiagramSpec)

/-- 'laws.FnExactTestsEvaluated', WHERE WHAT IT READS IS OF BULK AT MOST 1048576: true; the input reads as it did. -/
def fnExactTestsEvaluatedUptoRow : OpenClaim := { program := "ytjfhlhhobpdneaa", sum := "5208bdb6ef7e913740823ae14ae2ee68b2a7ac55136fcdc47bebd2f859f0aa91", func := "loop.example/g01923/laws.FnExactTestsEvaluated", spec := "fnExactTestsEvaluated", unfollowed := true, recurses := true, apart := false, narrowed := true }
def FnExactTestsEvaluatedUptoSaid : Prop := fnExactTestsEvaluatedUptoRow.holds Try.pinned (OpenSpec.upto fnExactTestsEvaluatedSpec)

/-- 'laws.FnExactFirstRule', WHERE WHAT IT READS IS OF BULK AT MOST 1048576: true; the input reads as it did. -/
def fnExactFirstRuleUptoRow : OpenClaim := { program := "ytjfhlhhobpdneaa", sum := "5208bdb6ef7e913740823ae14ae2ee68b2a7ac55136fcdc47bebd2f859f0aa91", func := "loop.example/g01923/laws.FnExactFirstRule", spec := "fnExactFirstRule", unfollowed := true, recurses := true, apart := false, narrowed := true }
def FnExactFirstRuleUptoSaid : Prop := fnExactFirstRuleUptoRow.holds Try.pinned (OpenSpec.upto fnExactFirstRuleSpec)

/-- 'laws.FnExactRulesHold', WHERE WHAT IT READS IS OF BULK AT MOST 1048576: true; the input reads as it did. -/
def fnExactRulesHoldUptoRow : OpenClaim := { program := "ytjfhlhhobpdneaa", sum := "5208bdb6ef7e913740823ae14ae2ee68b2a7ac55136fcdc47bebd2f859f0aa91", func := "loop.example/g01923/laws.FnExactRulesHold", spec := "fnExactRulesHold", unfollowed := true, recurses := true, apart := false, narrowed := true }
def FnExactRulesHoldUptoSaid : Prop := fnExactRulesHoldUptoRow.holds Try.pinned (OpenSpec.upto fnExactRulesHoldSpec)

/-- 'laws.FnExactDiagramVariables', WHERE WHAT IT READS IS OF BULK AT MOST 1048576: true; the input reads as it did. -/
def fnExactDiagramVariablesUptoRow : OpenClaim := { program := "ytjfhlhhobpdneaa", sum := "5208bdb6ef7e913740823ae14ae2ee68b2a7ac55136fcdc47bebd2f859f0aa91", func := "loop.example/g01923/laws.FnExactDiagramVariables", spec := "fnExactDiagramVariables", unfollowed := true, recurses := true, apart := false, narrowed := true }
def FnExactDiagramVariablesUptoSaid : Prop := fnExactDiagramVariablesUptoRow.holds Try.pinned (OpenSpec.upto fnExactDiagramVariablesSpec)

/-- 'laws.FnExactIsMonotone', WHERE WHAT IT READS IS OF BULK AT MOST 1048576: true; the input reads as it did. -/
def fnExactIsMonotoneUptoRow : OpenClaim := { program := "ytjfhlhhobpdneaa", sum := "5208bdb6ef7e913740823ae14ae2ee68b2a7ac55136fcdc47bebd2f859f0aa91", func := "loop.example/g01923/laws.FnExactIsMonotone", spec := "fnExactIsMonotone", unfollowed := true, recurses := true, apart := false, narrowed := true }
def FnExactIsMonotoneUptoSaid : Prop := fnExactIsMonotoneUptoRow.holds Try.pinned (OpenSpec.upto fnExactIsMonotoneSpec)

/-- 'laws.FnExactMonotoneViolation', WHERE WHAT IT READS IS OF BULK AT MOST 1048576: true; the input reads as it did. -/
def fnExactMonotoneViolationUptoRow : OpenClaim := { program := "ytjfhlhhobpdneaa", sum := "5208bdb6ef7e913740823ae14ae2ee68b2a7ac55136fcdc47bebd2f859f0aa91", func := "loop.example/g01923/laws.FnExactMonotoneViolation", spec := "fnExactMonotoneViolation", unfollowed := true, recurses := true, apart := false, narrowed := true }
def FnExactMonotoneViolationUptoSaid : Prop := fnExactMonotoneViolationUptoRow.holds Try.pinned (OpenSpec.upto fnExactMonotoneViolationSpec)

/-- 'laws.FnExactBuildDiagram', WHERE WHAT IT READS IS OF BULK AT MOST 1048576: true; the input reads as it did. -/
def fnExactBuildDiagramUptoRow : OpenClaim := { program := "ytjfhlhhobpdneaa", sum := "5208bdb6ef7e913740823ae14ae2ee68b2a7ac55136fcdc47bebd2f859f0aa91", func := "loop.example/g01923/laws.FnExactBuildDiagram", spec := "fnExactBuildDiagram", unfollowed := true, recurses := true, apart := false, narrowed := true }
def FnExactBuildDiagramUptoSaid : Prop := fnExactBuildDiagramUptoRow.holds Try.pinned (OpenSpec.upto fnExactBuildDiagramSpec)

end Rows
end Go.Proofs.Ytjfhlhhobpdneaa
