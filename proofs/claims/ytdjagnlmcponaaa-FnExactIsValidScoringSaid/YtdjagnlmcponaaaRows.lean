/-
  No cell of these rows narrows 'for every input' (looked for: loops, veiled, ifaces, maps, wideKeys, modest, calm, conditions, laid).
  DERIVED. THE GIVEN ROWS OF THIS SEAT. 11 by the template 'for every input the law returns true; each argument reads behind the call as it read before'; 0 by the template 'total and deterministic' (their statements: YtdjagnlmcponaaaTotals.lean).
  GIVEN WITH THE SEED: the statements are not yours to turn. If you find one false, say at which input.
  Laid BY PROGRAM, IN A SANDBOX (cutbox-rows.mjs): the forced cells as the released guide's own fill.sh prints them over the translation 67d3b5ec3af784de… (all of the seat's roots in one cut). By AI agents, Wed Nov 11 2026. No macro, syntax, notation, axiom, sorry.
-/
import Derived.Test.YtdjagnlmcponaaaChecked
import GoSem.Claim
import GoSem.ClaimJoined
import GoSem.ClaimMapViews
import Derived.JoinedTies
import Derived.KernelRfl
namespace Go.Proofs.Ytdjagnlmcponaaa
/- THE CELL 'sum', in the pinned program and in every row, IS THE sha256 OF THE DUMP (.gsa) THAT YtdjagnlmcponaaaProg.lean LOADS. Nothing in Lean hashes anything: it is a label: what it is worth is what the hold of that sum in a sandbox is worth. -/
noncomputable def Try.pinned : Pinned := { name := "ytdjagnlmcponaaa", sum := "67d3b5ec3af784de58ab40f60a847d3e57bdf78f2fcb6272fce111d89e7542d6", checked := Try.checked }
namespace Rows
def none {H : Type} : Left H := { results := [], args := [] }

/-- 'laws.FnExactLengthFilter': WHATEVER THE INPUT: true; the input reads as it did. -/
def fnExactLengthFilterSpec : ChangeSpec := { name := "fnExactLengthFilter", fn := fun _ => fun
  | [d1, d2, d3] => { results := [.lit (.bool true)], args := [d1, d2, d3] }
  | _ => none }
def fnExactLengthFilterRow : OpenClaim := { program := "ytdjagnlmcponaaa", sum := "67d3b5ec3af784de58ab40f60a847d3e57bdf78f2fcb6272fce111d89e7542d6", func := "loop.example/g01923/laws.FnExactLengthFilter", spec := "fnExactLengthFilter", apart := false }
def FnExactLengthFilterSaid : Prop := fnExactLengthFilterRow.holds Try.pinned (OpenSpec.ofChange fnExactLengthFilterSpec)

/-- ITS FALSE NEIGHBOUR: 'it returns false'. Refute it at one input. -/
def fnExactLengthFilterWrong : ChangeSpec := { name := "fnExactLengthFilter", fn := fun _ => fun
  | [d1, d2, d3] => { results := [.lit (.bool false)], args := [d1, d2, d3] }
  | _ => none }
def FnExactLengthFilterWrongFalsely : Prop := fnExactLengthFilterRow.holds Try.pinned (OpenSpec.ofChange fnExactLengthFilterWrong)

/-- 'laws.FnExactEditLimit': WHATEVER THE INPUT: true; the input reads as it did. -/
def fnExactEditLimitSpec : ChangeSpec := { name := "fnExactEditLimit", fn := fun _ => fun
  | [d1, d2, d3] => { results := [.lit (.bool true)], args := [d1, d2, d3] }
  | _ => none }
def fnExactEditLimitRow : OpenClaim := { program := "ytdjagnlmcponaaa", sum := "67d3b5ec3af784de58ab40f60a847d3e57bdf78f2fcb6272fce111d89e7542d6", func := "loop.example/g01923/laws.FnExactEditLimit", spec := "fnExactEditLimit", apart := false }
def FnExactEditLimitSaid : Prop := fnExactEditLimitRow.holds Try.pinned (OpenSpec.ofChange fnExactEditLimitSpec)

/-- ITS FALSE NEIGHBOUR: 'it returns false'. Refute it at one input. -/
def fnExactEditLimitWrong : ChangeSpec := { name := "fnExactEditLimit", fn := fun _ => fun
  | [d1, d2, d3] => { results := [.lit (.bool false)], args := [d1, d2, d3] }
  | _ => none }
def FnExactEditLimitWrongFalsely : Prop := fnExactEditLimitRow.holds Try.pinned (OpenSpec.ofChange fnExactEditLimitWrong)

/-- 'laws.FnExactMinCommonGrams': WHATEVER THE INPUT: true; the input reads as it did. -/
def fnExactMinCommonGramsSpec : ChangeSpec := { name := "fnExactMinCommonGrams", fn := fun _ => fun
  | [d1, d2, d3, d4] => { results := [.lit (.bool true)], args := [d1, d2, d3, d4] }
  | _ => none }
def fnExactMinCommonGramsRow : OpenClaim := { program := "ytdjagnlmcponaaa", sum := "67d3b5ec3af784de58ab40f60a847d3e57bdf78f2fcb6272fce111d89e7542d6", func := "loop.example/g01923/laws.FnExactMinCommonGrams", spec := "fnExactMinCommonGrams", apart := false }
def FnExactMinCommonGramsSaid : Prop := fnExactMinCommonGramsRow.holds Try.pinned (OpenSpec.ofChange fnExactMinCommonGramsSpec)

/-- ITS FALSE NEIGHBOUR: 'it returns false'. Refute it at one input. -/
def fnExactMinCommonGramsWrong : ChangeSpec := { name := "fnExactMinCommonGrams", fn := fun _ => fun
  | [d1, d2, d3, d4] => { results := [.lit (.bool false)], args := [d1, d2, d3, d4] }
  | _ => none }
def FnExactMinCommonGramsWrongFalsely : Prop := fnExactMinCommonGramsRow.holds Try.pinned (OpenSpec.ofChange fnExactMinCommonGramsWrong)

/-- 'laws.FnExactPrefixLength': WHATEVER THE INPUT: true; the input reads as it did. -/
def fnExactPrefixLengthSpec : ChangeSpec := { name := "fnExactPrefixLength", fn := fun _ => fun
  | [d1, d2] => { results := [.lit (.bool true)], args := [d1, d2] }
  | _ => none }
def fnExactPrefixLengthRow : OpenClaim := { program := "ytdjagnlmcponaaa", sum := "67d3b5ec3af784de58ab40f60a847d3e57bdf78f2fcb6272fce111d89e7542d6", func := "loop.example/g01923/laws.FnExactPrefixLength", spec := "fnExactPrefixLength", apart := false }
def FnExactPrefixLengthSaid : Prop := fnExactPrefixLengthRow.holds Try.pinned (OpenSpec.ofChange fnExactPrefixLengthSpec)

/-- ITS FALSE NEIGHBOUR: 'it returns false'. Refute it at one input. -/
def fnExactPrefixLengthWrong : ChangeSpec := { name := "fnExactPrefixLength", fn := fun _ => fun
  | [d1, d2] => { results := [.lit (.bool false)], args := [d1, d2] }
  | _ => none }
def FnExactPrefixLengthWrongFalsely : Prop := fnExactPrefixLengthRow.holds Try.pinned (OpenSpec.ofChange fnExactPrefixLengthWrong)

/-- 'laws.FnExactIsFeatureVector': WHATEVER THE INPUT: true; the input reads as it did. -/
def fnExactIsFeatureVectorSpec : ChangeSpec := { name := "fnExactIsFeatureVector", fn := fun _ => fun
  | [d] => { results := [.lit (.bool true)], args := [d] }
  | _ => none }
def fnExactIsFeatureVectorRow : OpenClaim := { program := "ytdjagnlmcponaaa", sum := "67d3b5ec3af784de58ab40f60a847d3e57bdf78f2fcb6272fce111d89e7542d6", func := "loop.example/g01923/laws.FnExactIsFeatureVector", spec := "fnExactIsFeatureVector", unfollowed := true, recurses := true, apart := false }
def FnExactIsFeatureVectorSaid : Prop := fnExactIsFeatureVectorRow.holds Try.pinned (OpenSpec.ofChange fnExactIsFeatureVectorSpec)

/-- ITS FALSE NEIGHBOUR: 'it returns false'. Refute it at one input. -/
def fnExactIsFeatureVectorWrong : ChangeSpec := { name := "fnExactIsFeatureVector", fn := fun _ => fun
  | [d] => { results := [.lit (.bool false)], args := [d] }
  | _ => none }
def FnExactIsFeatureVectorWrongFalsely : Prop := fnExactIsFeatureVectorRow.holds Try.pinned (OpenSpec.ofChange fnExactIsFeatureVectorWrong)

/-- 'laws.FnExactTestHolds': WHATEVER THE INPUT: true; the input reads as it did. -/
def fnExactTestHoldsSpec : ChangeSpec := { name := "fnExactTestHolds", fn := fun _ => fun
  | [d1, d2] => { results := [.lit (.bool true)], args := [d1, d2] }
  | _ => none }
def fnExactTestHoldsRow : OpenClaim := { program := "ytdjagnlmcponaaa", sum := "67d3b5ec3af784de58ab40f60a847d3e57bdf78f2fcb6272fce111d89e7542d6", func := "loop.example/g01923/laws.FnExactTestHolds", spec := "fnExactTestHolds", unfollowed := true, recurses := true, apart := false }
def FnExactTestHoldsSaid : Prop := fnExactTestHoldsRow.holds Try.pinned (OpenSpec.ofChange fnExactTestHoldsSpec)

/-- ITS FALSE NEIGHBOUR: 'it returns false'. Refute it at one input. -/
def fnExactTestHoldsWrong : ChangeSpec := { name := "fnExactTestHolds", fn := fun _ => fun
  | [d1, d2] => { results := [.lit (.bool false)], args := [d1, d2] }
  | _ => none }
def FnExactTestHoldsWrongFalsely : Prop := fnExactTestHoldsRow.holds Try.pinned (OpenSpec.ofChange fnExactTestHoldsWrong)

/-- 'laws.FnExactDominatesFeatures': WHATEVER THE INPUT: true; the input reads as it did. -/
def fnExactDominatesFeaturesSpec : ChangeSpec := { name := "fnExactDominatesFeatures", fn := fun _ => fun
  | [d1, d2] => { results := [.lit (.bool true)], args := [d1, d2] }
  | _ => none }
def fnExactDominatesFeaturesRow : OpenClaim := { program := "ytdjagnlmcponaaa", sum := "67d3b5ec3af784de58ab40f60a847d3e57bdf78f2fcb6272fce111d89e7542d6", func := "loop.example/g01923/laws.FnExactDominatesFeatures", spec := "fnExactDominatesFeatures", unfollowed := true, recurses := true, apart := false }
def FnExactDominatesFeaturesSaid : Prop := fnExactDominatesFeaturesRow.holds Try.pinned (OpenSpec.ofChange fnExactDominatesFeaturesSpec)

/-- ITS FALSE NEIGHBOUR: 'it returns false'. Refute it at one input. -/
def fnExactDominatesFeaturesWrong : ChangeSpec := { name := "fnExactDominatesFeatures", fn := fun _ => fun
  | [d1, d2] => { results := [.lit (.bool false)], args := [d1, d2] }
  | _ => none }
def FnExactDominatesFeaturesWrongFalsely : Prop := fnExactDominatesFeaturesRow.holds Try.pinned (OpenSpec.ofChange fnExactDominatesFeaturesWrong)

/-- 'laws.FnExactIsTokenTable': WHATEVER THE INPUT: true; the input reads as it did. -/
def fnExactIsTokenTableSpec : ChangeSpec := { name := "fnExactIsTokenTable", fn := fun _ => fun
  | [d] => { results := [.lit (.bool true)], args := [d] }
  | _ => none }
def fnExactIsTokenTableRow : OpenClaim := { program := "ytdjagnlmcponaaa", sum := "67d3b5ec3af784de58ab40f60a847d3e57bdf78f2fcb6272fce111d89e7542d6", func := "loop.example/g01923/laws.FnExactIsTokenTable", spec := "fnExactIsTokenTable", apart := false }
def FnExactIsTokenTableSaid : Prop := fnExactIsTokenTableRow.holds Try.pinned (OpenSpec.ofChange fnExactIsTokenTableSpec)

/-- ITS FALSE NEIGHBOUR: 'it returns false'. Refute it at one input. -/
def fnExactIsTokenTableWrong : ChangeSpec := { name := "fnExactIsTokenTable", fn := fun _ => fun
  | [d] => { results := [.lit (.bool false)], args := [d] }
  | _ => none }
def FnExactIsTokenTableWrongFalsely : Prop := fnExactIsTokenTableRow.holds Try.pinned (OpenSpec.ofChange fnExactIsTokenTableWrong)

/-- 'laws.FnExactTokenFrequency': WHATEVER THE INPUT: true; the input reads as it did. -/
def fnExactTokenFrequencySpec : ChangeSpec := { name := "fnExactTokenFrequency", fn := fun _ => fun
  | [d1, d2] => { results := [.lit (.bool true)], args := [d1, d2] }
  | _ => none }
def fnExactTokenFrequencyRow : OpenClaim := { program := "ytdjagnlmcponaaa", sum := "67d3b5ec3af784de58ab40f60a847d3e57bdf78f2fcb6272fce111d89e7542d6", func := "loop.example/g01923/laws.FnExactTokenFrequency", spec := "fnExactTokenFrequency", apart := false }
def FnExactTokenFrequencySaid : Prop := fnExactTokenFrequencyRow.holds Try.pinned (OpenSpec.ofChange fnExactTokenFrequencySpec)

/-- ITS FALSE NEIGHBOUR: 'it returns false'. Refute it at one input. -/
def fnExactTokenFrequencyWrong : ChangeSpec := { name := "fnExactTokenFrequency", fn := fun _ => fun
  | [d1, d2] => { results := [.lit (.bool false)], args := [d1, d2] }
  | _ => none }
def FnExactTokenFrequencyWrongFalsely : Prop := fnExactTokenFrequencyRow.holds Try.pinned (OpenSpec.ofChange fnExactTokenFrequencyWrong)

/-- 'laws.FnExactIsValidScoring': WHATEVER THE INPUT: true; the input reads as it did. -/
def fnExactIsValidScoringSpec : ChangeSpec := { name := "fnExactIsValidScoring", fn := fun _ => fun
  | [d] => { results := [.lit (.bool true)], args := [d] }
  | _ => none }
def fnExactIsValidScoringRow : OpenClaim := { program := "ytdjagnlmcponaaa", sum := "67d3b5ec3af784de58ab40f60a847d3e57bdf78f2fcb6272fce111d89e7542d6", func := "loop.example/g01923/laws.FnExactIsValidScoring", spec := "fnExactIsValidScoring", apart := false }
def FnExactIsValidScoringSaid : Prop := fnExactIsValidScoringRow.holds Try.pinned (OpenSpec.ofChange fnExactIsValidScoringSpec)

/-- ITS FALSE NEIGHBOUR: 'it returns false'. Refute it at one input. -/
def fnExactIsValidScoringWrong : ChangeSpec := { name := "fnExactIsValidScoring", fn := fun _ => fun
  | [d] => { results := [.lit (.bool false)], args := [d] }
  | _ => none }
def FnExactIsValidScoringWrongFalsely : Prop := fnExactIsValidScoringRow.holds Try.pinned (OpenSpec.ofChange fnExactIsValidScoringWrong)

/-- 'laws.FnExactEqualDiagrams': WHATEVER THE INPUT: true; the input reads as it did. -/
def fnExactEqualDiagramsSpec : ChangeSpec := { name := "fnExactEqualDiagrams", fn := fun _ => fun
  | [d1, d2] => { results := [.lit (.bool true)], args := [d1, d2] }
  | _ => none }
def fnExactEqualDiagramsRow : OpenClaim := { program := "ytdjagnlmcponaaa", sum := "67d3b5ec3af784de58ab40f60a847d3e57bdf78f2fcb6272fce111d89e7542d6", func := "loop.example/g01923/laws.FnExactEqualDiagrams", spec := "fnExactEqualDiagrams", apart := false }
def FnExactEqualDiagramsSaid : Prop := fnExactEqualDiagramsRow.holds Try.pinned (OpenSpec.ofChange fnExactEqualDiagramsSpec)

/-- ITS FALSE NEIGHBOUR: 'it returns false'. Refute it at one input. -/
def fnExactEqualDiagramsWrong : ChangeSpec := { name := "fnExactEqualDiagrams", fn := fun _ => fun
  | [d1, d2] => { results := [.lit (.bool false)], args := [d1, d2] }
  | _ => none }
def FnExactEqualDiagramsWrongFalsely : Prop := fnExactEqualDiagramsRow.holds Try.pinned (OpenSpec.ofChange fnExactEqualDiagramsWrong)

/- THE SECOND FORM. 'bulk': how many values and letters a reading holds, each counted each time it is reached (what is shared counts as often as it is met; a slice's spare places count too). A statement '..UptoSaid' is the law's where the arguments, and the package variables that the reading takes, are together of bulk at most 1048576: NARROWER than '..Said'. Prove '..Said' where nothing that the law and all that it calls make is longer than what came in: it says more and counts as full. Else prove '..UptoSaid'. A law counts once. -/
mutual
def uptoBulk {H : Type} : DataW H → Nat
  | .lit (.string bytes) => bytes.length + 1
  | .lit _ => 1
  | .nil => 1
  | .ptr d => uptoBulk d + 1
  | .slice elems spare => uptoBulkAll elems + uptoBulkAll spare + 1
  | .agg parts => uptoBulkAll parts + 1
  | .iface _ d => uptoBulk d + 1
  | .map entries => uptoBulkEntries entries + 1
  | .held _ => 1
def uptoBulkAll {H : Type} : List (DataW H) → Nat
  | [] => 0
  | d :: r => uptoBulk d + uptoBulkAll r
def uptoBulkEntries {H : Type} : List (Lit × DataW H) → Nat
  | [] => 0
  | x :: r => uptoBulkEntry x + uptoBulkEntries r
def uptoBulkEntry {H : Type} : Lit × DataW H → Nat
  | (.string bytes, d) => bytes.length + uptoBulk d + 1
  | (_, d) => uptoBulk d + 1
 end
def uptoSmall : (H : Type) → List (DataW H) → Bool := fun _ ds => decide (uptoBulkAll ds ≤ 1048576)
def OpenSpec.upto (s : _root_.Go.ChangeSpec) : _root_.Go.OpenSpec := { _root_.Go.OpenSpec.ofChange s with cond := some uptoSmall }

/-- 'laws.FnExactLengthFilter', WHERE WHAT IT READS IS OF BULK AT MOST 1048576: true; the input reads as it did. -/
def fnExactLengthFilterUptoRow : OpenClaim := { program := "ytdjagnlmcponaaa", sum := "67d3b5ec3af784de58ab40f60a847d3e57bdf78f2fcb6272fce111d89e7542d6", func := "loop.example/g01923/laws.FnExactLengthFilter", spec := "fnExactLengthFilter", apart := false, narrowed := true }
def FnExactLengthFilterUptoSaid : Prop := fnExactLengthFilterUptoRow.holds Try.pinned (OpenSpec.upto fnExactLengthFilterSpec)

/-- 'laws.FnExactEditLimit', WHERE WHAT IT READS IS OF BULK AT MOST 1048576: true; the input reads as it did. -/
def fnExactEditLimitUptoRow : OpenClaim := { program := "ytdjagnlmcponaaa", sum := "67d3b5ec3af784de58ab40f60a847d3e57bdf78f2fcb6272fce111d89e7542d6", func := "loop.example/g01923/laws.FnExactEditLimit", spec := "fnExactEditLimit", apart := false, narrowed := true }
def FnExactEditLimitUptoSaid : Prop := fnExactEditLimitUptoRow.holds Try.pinned (OpenSpec.upto fnExactEditLimitSpec)

/-- 'laws.FnExactMinCommonGrams', WHERE WHAT IT READS IS OF BULK AT MOST 1048576: true; the input reads as it did. -/
def fnExactMinCommonGramsUptoRow : OpenClaim := { program := "ytdjagnlmcponaaa", sum := "67d3b5ec3af784de58ab40f60a847d3e57bdf78f2fcb6272fce111d89e7542d6", func := "loop.example/g01923/laws.FnExactMinCommonGrams", spec := "fnExactMinCommonGrams", apart := false, narrowed := true }
def FnExactMinCommonGramsUptoSaid : Prop := fnExactMinCommonGramsUptoRow.holds Try.pinned (OpenSpec.upto fnExactMinCommonGramsSpec)

/-- 'laws.FnExactPrefixLength', WHERE WHAT IT READS IS OF BULK AT MOST 1048576: true; the input reads as it did. -/
def fnExactPrefixLengthUptoRow : OpenClaim := { program := "ytdjagnlmcponaaa", sum := "67d3b5ec3af784de58ab40f60a847d3e57bdf78f2fcb6272fce111d89e7542d6", func := "loop.example/g01923/laws.FnExactPrefixLength", spec := "fnExactPrefixLength", apart := false, narrowed := true }
def FnExactPrefixLengthUptoSaid : Prop := fnExactPrefixLengthUptoRow.holds Try.pinned (OpenSpec.upto fnExactPrefixLengthSpec)

/-- 'laws.FnExactIsFeatureVector', WHERE WHAT IT READS IS OF BULK AT MOST 1048576: true; the input reads as it did. -/
def fnExactIsFeatureVectorUptoRow : OpenClaim := { program := "ytdjagnlmcponaaa", sum := "67d3b5ec3af784de58ab40f60a847d3e57bdf78f2fcb6272fce111d89e7542d6", func := "loop.example/g01923/laws.FnExactIsFeatureVector", spec := "fnExactIsFeatureVector", unfollowed := true, recurses := true, apart := false, narrowed := true }
def FnExactIsFeatureVectorUptoSaid : Prop := fnExactIsFeatureVectorUptoRow.holds Try.pinned (OpenSpec.upto fnExactIsFeatureVectorSpec)

/-- 'laws.FnExactTestHolds', WHERE WHAT IT READS IS OF BULK AT MOST 1048576: true; the input reads as it did. -/
def fnExactTestHoldsUptoRow : OpenClaim := { program := "ytdjagnlmcponaaa", sum := "67d3b5ec3af784de58ab40f60a847d3e57bdf78f2fcb6272fce111d89e7542d6", func := "loop.example/g01923/laws.FnExactTestHolds", spec := "fnExactTestHolds", unfollowed := true, recurses := true, apart := false, narrowed := true }
def FnExactTestHoldsUptoSaid : Prop := fnExactTestHoldsUptoRow.holds Try.pinned (OpenSpec.upto fnExactTestHoldsSpec)

/-- 'laws.FnExactDominatesFeatures', WHERE WHAT IT READS IS OF BULK AT MOST 1048576: true; the input reads as it did. -/
def fnExactDominatesFeaturesUptoRow : OpenClaim := { program := "ytdjagnlmcponaaa", sum := "67d3b5ec3af784de58ab40f60a847d3e57bdf78f2fcb6272fce111d89e7542d6", func := "loop.example/g01923/laws.FnExactDominatesFeatures", spec := "fnExactDominatesFeatures", unfollowed := true, recurses := true, apart := false, narrowed := true }
def FnExactDominatesFeaturesUptoSaid : Prop := fnExactDominatesFeaturesUptoRow.holds Try.pinned (OpenSpec.upto fnExactDominatesFeaturesSpec)

/-- 'laws.FnExactIsTokenTable', WHERE WHAT IT READS IS OF BULK AT MOST 1048576: true; the input reads as it did. -/
def fnExactIsTokenTableUptoRow : OpenClaim := { program := "ytdjagnlmcponaaa", sum := "67d3b5ec3af784de58ab40f60a847d3e57bdf78f2fcb6272fce111d89e7542d6", func := "loop.example/g01923/laws.FnExactIsTokenTable", spec := "fnExactIsTokenTable", apart := false, narrowed := true }
def FnExactIsTokenTableUptoSaid : Prop := fnExactIsTokenTableUptoRow.holds Try.pinned (OpenSpec.upto fnExactIsTokenTableSpec)

/-- 'laws.FnExactTokenFrequency', WHERE WHAT IT READS IS OF BULK AT MOST 1048576: true; the input reads as it did. -/
def fnExactTokenFrequencyUptoRow : OpenClaim := { program := "ytdjagnlmcponaaa", sum := "67d3b5ec3af784de58ab40f60a847d3e57bdf78f2fcb6272fce111d89e7542d6", func := "loop.example/g01923/laws.FnExactTokenFrequency", spec := "fnExactTokenFrequency", apart := false, narrowed := true }
def FnExactTokenFrequencyUptoSaid : Prop := fnExactTokenFrequencyUptoRow.holds Try.pinned (OpenSpec.upto fnExactTokenFrequencySpec)

/-- 'laws.FnExactIsValidScoring', WHERE WHAT IT READS IS OF BULK AT MOST 1048576: true; the input reads as it did. -/
def fnExactIsValidScoringUptoRow : OpenClaim := { program := "ytdjagnlmcponaaa", sum := "67d3b5ec3af784de58ab40f60a847d3e57bdf78f2fcb6272fce111d89e7542d6", func := "loop.example/g01923/laws.FnExactIsValidScoring", spec := "fnExactIsValidScoring", apart := false, narrowed := true }
def FnExactIsValidScoringUptoSaid : Prop := fnExactIsValidScoringUptoRow.holds Try.pinned (OpenSpec.upto fnExactIsValidScoringSpec)

/-- 'laws.FnExactEqualDiagrams', WHERE WHAT IT READS IS OF BULK AT MOST 1048576: true; the input reads as it did. -/
def fnExactEqualDiagramsUptoRow : OpenClaim := { program := "ytdjagnlmcponaaa", sum := "67d3b5ec3af784de58ab40f60a847d3e57bdf78f2fcb6272fce111d89e7542d6", func := "loop.example/g01923/laws.FnExactEqualDiagrams", spec := "fnExactEqualDiagrams", apart := false, narrowed := true }
def FnExactEqualDiagramsUptoSaid : Prop := fnExactEqualDiagramsUptoRow.holds Try.pinned (OpenSpec.upto fnExactEqualDiagramsSpec)

end Rows
end Go.Proofs.Ytdjagnlmcponaaa
