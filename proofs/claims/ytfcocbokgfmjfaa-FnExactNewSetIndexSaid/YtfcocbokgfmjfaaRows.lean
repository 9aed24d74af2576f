/-
  No cell of these rows narrows 'for every input' (looked for: loops, veiled, ifaces, maps, wideKeys, modest, calm, conditions, laid).
  DERIVED. THE GIVEN ROWS OF THIS SEAT. 10 by the template 'for every input the law returns true; each argument reads behind the call as it read before'; 0 by the template 'total and deterministic' (their statements: YtfcocbokgfmjfaaTotals.lean).
  GIVEN WITH THE SEED: the statements are not yours to turn. If you find one false, say at which input.
  Laid BY PROGRAM, IN A SANDBOX (cutbox-rows.mjs): the forced cells as the released guide's own fill.sh prints them over the translation 5f918bf8c8166125… (all of the seat's roots in one cut). By AI agents, Wed Nov 11 2026. No macro, syntax, notation, axiom, sorry.
-/
import Derived.Test.YtfcocbokgfmjfaaChecked
import GoSem.Claim
import GoSem.ClaimJoined
import GoSem.ClaimMapViews
import Derived.JoinedTies
import Derived.KernelRfl
namespace Go.Proofs.Ytfcocbokgfmjfaa
/- THE CELL 'sum', in the pinned program and in every row, IS THE sha256 OF THE DUMP (.gsa) THAT YtfcocbokgfmjfaaProg.lean LOADS. Nothing in Lean hashes anything: it is a label: what it is worth is what the hold of that sum in a sandbox is worth. -/
noncomputable def Try.pinned : Pinned := { name := "ytfcocbokgfmjfaa", sum := "5f918bf8c81661252cf3e82719d6b3b911b90b877e9761f6249d9b0ab40332ae", checked := Try.checked }
namespace Rows
def none {H : Type} : Left H := { results := [], args := [] }

/-- 'laws.FnExactOrderTokens': WHATEVER THE INPUT: true; the input reads as it did. -/
def fnExactOrderTokensSpec : ChangeSpec := { name := "fnExactOrderTokens", fn := fun _ => fun
  | [d1, d2] => { results := [.lit (.bool true)], args := [d1, d2] }
  | _ => none }
def fnExactOrderTokensRow : OpenClaim := { program := "ytfcocbokgfmjfaa", sum := "5f918bf8c81661252cf3e82719d6b3b911b90b877e9761f6249d9b0ab40332ae", func := "loop.example/g01923/laws.FnExactOrderTokens", spec := "fnExactOrderTokens", inPlace := ["internal/bytealg.abigen_runtime_cmpstring"], unfollowed := true, recurses := true, apart := false }
def FnExactOrderTokensSaid : Prop := fnExactOrderTokensRow.holds Try.pinned (OpenSpec.ofChange fnExactOrderTokensSpec)

/-- ITS FALSE NEIGHBOUR: 'it returns false'. Refute it at one input. -/
def fnExactOrderTokensWrong : ChangeSpec := { name := "fnExactOrderTokens", fn := fun _ => fun
  | [d1, d2] => { results := [.lit (.bool false)], args := [d1, d2] }
  | _ => none }
def FnExactOrderTokensWrongFalsely : Prop := fnExactOrderTokensRow.holds Try.pinned (OpenSpec.ofChange fnExactOrderTokensWrong)

/-- 'laws.FnExactCountTokens': WHATEVER THE INPUT: true; the input reads as it did. -/
def fnExactCountTokensSpec : ChangeSpec := { name := "fnExactCountTokens", fn := fun _ => fun
  | [d] => { results := [.lit (.bool true)], args := [d] }
  | _ => none }
def fnExactCountTokensRow : OpenClaim := { program := "ytfcocbokgfmjfaa", sum := "5f918bf8c81661252cf3e82719d6b3b911b90b877e9761f6249d9b0ab40332ae", func := "loop.example/g01923/laws.FnExactCountTokens", spec := "fnExactCountTokens", recurses := true, apart := false }
def FnExactCountTokensSaid : Prop := fnExactCountTokensRow.holds Try.pinned (OpenSpec.ofChange fnExactCountTokensSpec)

/-- ITS FALSE NEIGHBOUR: 'it returns false'. Refute it at one input. -/
def fnExactCountTokensWrong : ChangeSpec := { name := "fnExactCountTokens", fn := fun _ => fun
  | [d] => { results := [.lit (.bool false)], args := [d] }
  | _ => none }
def FnExactCountTokensWrongFalsely : Prop := fnExactCountTokensRow.holds Try.pinned (OpenSpec.ofChange fnExactCountTokensWrong)

/-- 'laws.FnExactPrefixTokens': WHATEVER THE INPUT: true; the input reads as it did. -/
def fnExactPrefixTokensSpec : ChangeSpec := { name := "fnExactPrefixTokens", fn := fun _ => fun
  | [d1, d2, d3] => { results := [.lit (.bool true)], args := [d1, d2, d3] }
  | _ => none }
def fnExactPrefixTokensRow : OpenClaim := { program := "ytfcocbokgfmjfaa", sum := "5f918bf8c81661252cf3e82719d6b3b911b90b877e9761f6249d9b0ab40332ae", func := "loop.example/g01923/laws.FnExactPrefixTokens", spec := "fnExactPrefixTokens", inPlace := ["internal/bytealg.abigen_runtime_cmpstring"], unfollowed := true, recurses := true, apart := false }
def FnExactPrefixTokensSaid : Prop := fnExactPrefixTokensRow.holds Try.pinned (OpenSpec.ofChange fnExactPrefixTokensSpec)

/-- ITS FALSE NEIGHBOUR: 'it returns false'. Refute it at one input. -/
def fnExactPrefixTokensWrong : ChangeSpec := { name := "fnExactPrefixTokens", fn := fun _ => fun
  | [d1, d2, d3] => { results := [.lit (.bool false)], args := [d1, d2, d3] }
  | _ => none }
def FnExactPrefixTokensWrongFalsely : Prop := fnExactPrefixTokensRow.holds Try.pinned (OpenSpec.ofChange fnExactPrefixTokensWrong)

/-- 'laws.FnExactIsValidSetIndex': WHATEVER THE INPUT: true; the input reads as it did. -/
def fnExactIsValidSetIndexSpec : ChangeSpec := { name := "fnExactIsValidSetIndex", fn := fun _ => fun
  | [d] => { results := [.lit (.bool true)], args := [d] }
  | _ => none }
def fnExactIsValidSetIndexRow : OpenClaim := { program := "ytfcocbokgfmjfaa", sum := "5f918bf8c81661252cf3e82719d6b3b911b90b877e9761f6249d9b0ab40332ae", func := "loop.example/g01923/laws.FnExactIsValidSetIndex", spec := "fnExactIsValidSetIndex", apart := false }
def FnExactIsValidSetIndexSaid : Prop := fnExactIsValidSetIndexRow.holds Try.pinned (OpenSpec.ofChange fnExactIsValidSetIndexSpec)

/-- ITS FALSE NEIGHBOUR: 'it returns false'. Refute it at one input. -/
def fnExactIsValidSetIndexWrong : ChangeSpec := { name := "fnExactIsValidSetIndex", fn := fun _ => fun
  | [d] => { results := [.lit (.bool false)], args := [d] }
  | _ => none }
def FnExactIsValidSetIndexWrongFalsely : Prop := fnExactIsValidSetIndexRow.holds Try.pinned (OpenSpec.ofChange fnExactIsValidSetIndexWrong)

/-- 'laws.FnExactNewSetIndex': WHATEVER THE INPUT: true; the input reads as it did. -/
def fnExactNewSetIndexSpec : ChangeSpec := { name := "fnExactNewSetIndex", fn := fun _ => fun
  | [d1, d2] => { results := [.lit (.bool true)], args := [d1, d2] }
  | _ => none }
def fnExactNewSetIndexRow : OpenClaim := { program := "ytfcocbokgfmjfaa", sum := "5f918bf8c81661252cf3e82719d6b3b911b90b877e9761f6249d9b0ab40332ae", func := "loop.example/g01923/laws.FnExactNewSetIndex", spec := "fnExactNewSetIndex", apart := false }
def FnExactNewSetIndexSaid : Prop := fnExactNewSetIndexRow.holds Try.pinned (OpenSpec.ofChange fnExactNewSetIndexSpec)

/-- ITS FALSE NEIGHBOUR: 'it returns false'. Refute it at one input. -/
def fnExactNewSetIndexWrong : ChangeSpec := { name := "fnExactNewSetIndex", fn := fun _ => fun
  | [d1, d2] => { results := [.lit (.bool false)], args := [d1, d2] }
  | _ => none }
def FnExactNewSetIndexWrongFalsely : Prop := fnExactNewSetIndexRow.holds Try.pinned (OpenSpec.ofChange fnExactNewSetIndexWrong)

/-- 'laws.FnExactRemoveSet': WHATEVER THE INPUT: true; the input reads as it did. -/
def fnExactRemoveSetSpec : ChangeSpec := { name := "fnExactRemoveSet", fn := fun _ => fun
  | [d1, d2] => { results := [.lit (.bool true)], args := [d1, d2] }
  | _ => none }
def fnExactRemoveSetRow : OpenClaim := { program := "ytfcocbokgfmjfaa", sum := "5f918bf8c81661252cf3e82719d6b3b911b90b877e9761f6249d9b0ab40332ae", func := "loop.example/g01923/laws.FnExactRemoveSet", spec := "fnExactRemoveSet", unfollowed := true, recurses := true, apart := false }
def FnExactRemoveSetSaid : Prop := fnExactRemoveSetRow.holds Try.pinned (OpenSpec.ofChange fnExactRemoveSetSpec)

/-- ITS FALSE NEIGHBOUR: 'it returns false'. Refute it at one input. -/
def fnExactRemoveSetWrong : ChangeSpec := { name := "fnExactRemoveSet", fn := fun _ => fun
  | [d1, d2] => { results := [.lit (.bool false)], args := [d1, d2] }
  | _ => none }
def FnExactRemoveSetWrongFalsely : Prop := fnExactRemoveSetRow.holds Try.pinned (OpenSpec.ofChange fnExactRemoveSetWrong)

/-- 'laws.FnExactInsertSet': WHATEVER THE INPUT: true; the input reads as it did. -/
def fnExactInsertSetSpec : ChangeSpec := { name := "fnExactInsertSet", fn := fun _ => fun
  | [d1, d2, d3] => { results := [.lit (.bool true)], args := [d1, d2, d3] }
  | _ => none }
def fnExactInsertSetRow : OpenClaim := { program := "ytfcocbokgfmjfaa", sum := "5f918bf8c81661252cf3e82719d6b3b911b90b877e9761f6249d9b0ab40332ae", func := "loop.example/g01923/laws.FnExactInsertSet", spec := "fnExactInsertSet", inPlace := ["slices.overlaps[loop.example/g01923/impl.IndexedSet]"], unfollowed := true, recurses := true, apart := false }
def FnExactInsertSetSaid : Prop := fnExactInsertSetRow.holds Try.pinned (OpenSpec.ofChange fnExactInsertSetSpec)

/-- ITS FALSE NEIGHBOUR: 'it returns false'. Refute it at one input. -/
def fnExactInsertSetWrong : ChangeSpec := { name := "fnExactInsertSet", fn := fun _ => fun
  | [d1, d2, d3] => { results := [.lit (.bool false)], args := [d1, d2, d3] }
  | _ => none }
def FnExactInsertSetWrongFalsely : Prop := fnExactInsertSetRow.holds Try.pinned (OpenSpec.ofChange fnExactInsertSetWrong)

/-- 'laws.FnExactSearchSets': WHATEVER THE INPUT: true; the input reads as it did. -/
def fnExactSearchSetsSpec : ChangeSpec := { name := "fnExactSearchSets", fn := fun _ => fun
  | [d1, d2] => { results := [.lit (.bool true)], args := [d1, d2] }
  | _ => none }
def fnExactSearchSetsRow : OpenClaim := { program := "ytfcocbokgfmjfaa", sum := "5f918bf8c81661252cf3e82719d6b3b911b90b877e9761f6249d9b0ab40332ae", func := "loop.example/g01923/laws.FnExactSearchSets", spec := "fnExactSearchSets", recurses := true, apart := false }
def FnExactSearchSetsSaid : Prop := fnExactSearchSetsRow.holds Try.pinned (OpenSpec.ofChange fnExactSearchSetsSpec)

/-- ITS FALSE NEIGHBOUR: 'it returns false'. Refute it at one input. -/
def fnExactSearchSetsWrong : ChangeSpec := { name := "fnExactSearchSets", fn := fun _ => fun
  | [d1, d2] => { results := [.lit (.bool false)], args := [d1, d2] }
  | _ => none }
def FnExactSearchSetsWrongFalsely : Prop := fnExactSearchSetsRow.holds Try.pinned (OpenSpec.ofChange fnExactSearchSetsWrong)

/-- 'laws.FnExactJoinSets': WHATEVER THE INPUT: true; the input reads as it did. -/
def fnExactJoinSetsSpec : ChangeSpec := { name := "fnExactJoinSets", fn := fun _ => fun
  | [d] => { results := [.lit (.bool true)], args := [d] }
  | _ => none }
def fnExactJoinSetsRow : OpenClaim := { program := "ytfcocbokgfmjfaa", sum := "5f918bf8c81661252cf3e82719d6b3b911b90b877e9761f6249d9b0ab40332ae", func := "loop.example/g01923/laws.FnExactJoinSets", spec := "fnExactJoinSets", recurses := true, apart := false }
def FnExactJoinSetsSaid : Prop := fnExactJoinSetsRow.holds Try.pinned (OpenSpec.ofChange fnExactJoinSetsSpec)

/-- ITS FALSE NEIGHBOUR: 'it returns false'. Refute it at one input. -/
def fnExactJoinSetsWrong : ChangeSpec := { name := "fnExactJoinSets", fn := fun _ => fun
  | [d] => { results := [.lit (.bool false)], args := [d] }
  | _ => none }
def FnExactJoinSetsWrongFalsely : Prop := fnExactJoinSetsRow.holds Try.pinned (OpenSpec.ofChange fnExactJoinSetsWrong)

/-- 'laws.FnExactSharePrefix': WHATEVER THE INPUT: true; the input reads as it did. -/
def fnExactSharePrefixSpec : ChangeSpec := { name := "fnExactSharePrefix", fn := fun _ => fun
  | [d1, d2, d3, d4] => { results := [.lit (.bool true)], args := [d1, d2, d3, d4] }
  | _ => none }
def fnExactSharePrefixRow : OpenClaim := { program := "ytfcocbokgfmjfaa", sum := "5f918bf8c81661252cf3e82719d6b3b911b90b877e9761f6249d9b0ab40332ae", func := "loop.example/g01923/laws.FnExactSharePrefix", spec := "fnExactSharePrefix", inPlace := ["internal/bytealg.abigen_runtime_cmpstring"], unfollowed := true, recurses := true, apart := false }
def FnExactSharePrefixSaid : Prop := fnExactSharePrefixRow.holds Try.pinned (OpenSpec.ofChange fnExactSharePrefixSpec)

/-- ITS FALSE NEIGHBOUR: 'it returns false'. Refute it at one input. -/
def fnExactSharePrefixWrong : ChangeSpec := { name := "fnExactSharePrefix", fn := fun _ => fun
  | [d1, d2, d3, d4] => { results := [.lit (.bool false)], args := [d1, d2, d3, d4] }
  | _ => none }
def FnExactSharePrefixWrongFalsely : Prop := fnExactSharePrefixRow.holds Try.pinned (OpenSpec.ofChange fnExactSharePrefixWrong)

/- THE SECOND FORM. 'bulk': how many values and letters a reading holds, each counted each time it is reached (what is shared counts as often as it is met; a slice's spare places count too). A statement '..UptoSaid' is the law's where the arguments, and the package variables that the reading takes, are together of bulk at most 1048576: NARROWER than '..Said'. Prove '..Said' where nothing that the law and all that it calls make is longer than what came in: it says more and counts as full. Else prove '..UptoSaid'. A law counts once. -/
mutual
def uptoBulk {H : Type} : DataW H → Nat
  | .lit (.string bytes) => bytes.length + 1
  | .lit _ => 1
  | .nil => 1
  | .ptr d => uptoBulk d + 1
  | .slice elems spare => uptoBulkAll elems + uptoBulkAll spare + 1
  | .agg parts => uptoBulkAll parts + 1
  | .iface _ d => uptoBulk d + 1
  | .map entries => uptoBulkEntries entries + 1
  | .held _ => 1
def uptoBulkAll {H : Type} : List (DataW H) → Nat
  | [] => 0
  | d :: r => uptoBulk d + uptoBulkAll r
def uptoBulkEntries {H : Type} : List (Lit × DataW H) → Nat
  | [] => 0
  | x :: r => uptoBulkEntry x + uptoBulkEntries r
def uptoBulkEntry {H : Type} : Lit × DataW H → Nat
  | (.string bytes, d) => bytes.length + uptoBulk d + 1
  | (_, d) => uptoBulk d + 1
 end
def uptoSmall : (H : Type) → List (DataW H) → Bool := fun _ ds => decide (uptoBulkAll ds ≤ 1048576)
def OpenSpec.upto (s : _root_.Go.ChangeSpec) : _root_.Go.OpenSpec := { _root_.Go.OpenSpec.ofChange s with cond := some uptoSmall }

/-- 'laws.FnExactOrderTokens', WHERE WHAT IT READS IS OF BULK AT MOST 1048576: true; the input reads as it did. -/
def fnExactOrderTokensUptoRow : OpenClaim := { program := "ytfcocbokgfmjfaa", sum := "5f918bf8c81661252cf3e82719d6b3b911b90b877e9761f6249d9b0ab40332ae", func := "loop.example/g01923/laws.FnExactOrderTokens", spec := "fnExactOrderTokens", inPlace := ["internal/bytealg.abigen_runtime_cmpstring"], unfollowed := true, recurses := true, apart := false, narrowed := true }
def FnExactOrderTokensUptoSaid : Prop := fnExactOrderTokensUptoRow.holds Try.pinned (OpenSpec.upto fnExactOrderTokensSpec)

/-- 'laws.FnExactCountTokens', WHERE WHAT IT READS IS OF BULK AT MOST 1048576: true; the input reads as it did. -/
def fnExactCountTokensUptoRow : OpenClaim := { program := "ytfcocbokgfmjfaa", sum := "5f918bf8c81661252cf3e82719d6b3b911b90b877e9761f6249d9b0ab40332ae", func := "loop.example/g01923/laws.FnExactCountTokens", spec := "fnExactCountTokens", recurses := true, apart := false, narrowed := true }
def FnExactCountTokensUptoSaid : Prop := fnExactCountTokensUptoRow.holds Try.pinned (OpenSpec.upto fnExactCountTokensSpec)

/-- 'laws.FnExactPrefixTokens', WHERE WHAT IT READS IS OF BULK AT MOST 1048576: true; the input reads as it did. -/
def fnExactPrefixTokensUptoRow : OpenClaim := { program := "ytfcocbokgfmjfaa", sum := "5f918bf8c81661252cf3e82719d6b3b911b90b877e9761f6249d9b0ab40332ae", func := "loop.example/g01923/laws.FnExactPrefixTokens", spec := "fnExactPrefixTokens", inPlace := ["internal/bytealg.abigen_runtime_cmpstring"], unfollowed := true, recurses := true, apart := false, narrowed := true }
def FnExactPrefixTokensUptoSaid : Prop := fnExactPrefixTokensUptoRow.holds Try.pinned (OpenSpec.upto fnExactPrefixTokensSpec)

/-- 'laws.FnExactIsValidSetIndex', WHERE WHAT IT READS IS OF BULK AT MOST 1048576: true; the input reads as it did. -/
def fnExactIsValidSetIndexUptoRow : OpenClaim := { program := "ytfcocbokgfmjfaa", sum := "5f918bf8c81661252cf3e82719d6b3b911b90b877e9761f6249d9b0ab40332ae", func := "loop.example/g01923/laws.FnExactIsValidSetIndex", spec := "fnExactIsValidSetIndex", apart := false, narrowed := true }
def FnExactIsValidSetIndexUptoSaid : Prop := fnExactIsValidSetIndexUptoRow.holds Try.pinned (OpenSpec.upto fnExactIsValidSetIndexSpec)

/-- 'laws.FnExactNewSetIndex', WHERE WHAT IT READS IS OF BULK AT MOST 1048576: true; the input reads as it did. -/
def fnExactNewSetIndexUptoRow : OpenClaim := { program := "ytfcocbokgfmjfaa", sum := "5f918bf8c81661252cf3e82719d6b3b911b90b877e9761f6249d9b0ab40332ae", func := "loop.example/g01923/laws.FnExactNewSetIndex", spec := "fnExactNewSetIndex", apart := false, narrowed := true }
def FnExactNewSetIndexUptoSaid : Prop := fnExactNewSetIndexUptoRow.holds Try.pinned (OpenSpec.upto fnExactNewSetIndexSpec)

/-- 'laws.FnExactRemoveSet', WHERE WHAT IT READS IS OF BULK AT MOST 1048576: true; the input reads as it did. -/
def fnExactRemoveSetUptoRow : OpenClaim := { program := "ytfcocbokgfmjfaa", sum := "5f918bf8c81661252cf3e82719d6b3b911b90b877e9761f6249d9b0ab40332ae", func := "loop.example/g01923/laws.FnExactRemoveSet", spec := "fnExactRemoveSet", unfollowed := true, recurses := true, apart := false, narrowed := true }
def FnExactRemoveSetUptoSaid : Prop := fnExactRemoveSetUptoRow.holds Try.pinned (OpenSpec.upto fnExactRemoveSetSpec)

/-- 'laws.FnExactInsertSet', WHERE WHAT IT READS IS OF BULK AT MOST 1048576: true; the input reads as it did. -/
def fnExactInsertSetUptoRow : OpenClaim := { program := "ytfcocbokgfmjfaa", sum := "5f918bf8c81661252cf3e82719d6b3b911b90b877e9761f6249d9b0ab40332ae", func := "loop.example/g01923/laws.FnExactInsertSet", spec := "fnExactInsertSet", inPlace := ["slices.overlaps[loop.example/g01923/impl.IndexedSet]"], unfollowed := true, recurses := true, apart := false, narrowed := true }
def FnExactInsertSetUptoSaid : Prop := fnExactInsertSetUptoRow.holds Try.pinned (OpenSpec.upto fnExactInsertSetSpec)

/-- 'laws.FnExactSearchSets', WHERE WHAT IT READS IS OF BULK AT MOST 1048576: true; the input reads as it did. -/
def fnExactSearchSetsUptoRow : OpenClaim := { program := "ytfcocbokgfmjfaa", sum := "5f918bf8c81661252cf3e82719d6b3b911b90b877e9761f6249d9b0ab40332ae", func := "loop.example/g01923/laws.FnExactSearchSets", spec := "fnExactSearchSets", recurses := true, apart := false, narrowed := true }
def FnExactSearchSetsUptoSaid : Prop := fnExactSearchSetsUptoRow.holds Try.pinned (OpenSpec.upto fnExactSearchSetsSpec)

/-- 'laws.FnExactJoinSets', WHERE WHAT IT READS IS OF BULK AT MOST 1048576: true; the input reads as it did. -/
def fnExactJoinSetsUptoRow : OpenClaim := { program := "ytfcocbokgfmjfaa", sum := "5f918bf8c81661252cf3e82719d6b3b911b90b877e9761f6249d9b0ab40332ae", func := "loop.example/g01923/laws.FnExactJoinSets", spec := "fnExactJoinSets", recurses := true, apart := false, narrowed := true }
def FnExactJoinSetsUptoSaid : Prop := fnExactJoinSetsUptoRow.holds Try.pinned (OpenSpec.upto fnExactJoinSetsSpec)

/-- 'laws.FnExactSharePrefix', WHERE WHAT IT READS IS OF BULK AT MOST 1048576: true; the input reads as it did. -/
def fnExactSharePrefixUptoRow : OpenClaim := { program := "ytfcocbokgfmjfaa", sum := "5f918bf8c81661252cf3e82719d6b3b911b90b877e9761f6249d9b0ab40332ae", func := "loop.example/g01923/laws.FnExactSharePrefix", spec := "fnExactSharePrefix", inPlace := ["internal/bytealg.abigen_runtime_cmpstring"], unfollowed := true, recurses := true, apart := false, narrowed := true }
def FnExactSharePrefixUptoSaid : Prop := fnExactSharePrefixUptoRow.holds Try.pinned (OpenSpec.upto fnExactSharePrefixSpec)

end Rows
end Go.Proofs.Ytfcocbokgfmjfaa
