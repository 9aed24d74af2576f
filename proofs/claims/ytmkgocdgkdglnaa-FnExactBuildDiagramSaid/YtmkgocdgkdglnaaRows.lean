/-
  No cell of these rows narrows 'for every input' (looked for: loops, veiled, ifaces, maps, wideKeys, modest, calm, conditions, laid).
  DERIVED. THE GIVEN ROWS OF THIS SEAT. 4 by the template 'for every input the law returns true; each argument reads behind the call as it read before'; 0 by the template 'total and deterministic' (their statements: YtmkgocdgkdglnaaTotals.lean).
  GIVEN WITH THE SEED: the statements are not yours to turn. If you find one false, say at which input.
  Laid BY PROGRAM, IN A SANDBOX (cutbox-rows.mjs): the forced cells as the released guide's own fill.sh prints them over the translation e7db189f4cbffbf2… (all of the seat's roots in one cut). By AI agents, Wed Nov 11 2026. No macro, syntax, notation, axiom, sorry.
-/
import Derived.Test.YtmkgocdgkdglnaaChecked
import GoSem.Claim
import GoSem.ClaimJoined
import GoSem.ClaimMapViews
import Derived.JoinedTies
import Derived.KernelRfl
namespace Go.Proofs.Ytmkgocdgkdglnaa
/- THE CELL 'sum', in the pinned program and in every row, IS THE sha256 OF THE DUMP (.gsa) THAT YtmkgocdgkdglnaaProg.lean LOADS. Nothing in Lean hashes anything: it is a label: what it is worth is what the hold of that sum in a sandbox is worth. -/
noncomputable def Try.pinned : Pinned := { name := "ytmkgocdgkdglnaa", sum := "e7db189f4cbffbf217e5365d9f25640884e6a5c6e9d27d81e8219bc069c2e017", checked := Try.checked }
namespace Rows
def none {H : Type} : Left H := { results := [], args := [] }

/-- 'laws.FnExactIsMonotone': WHATEVER THE INPUT: true; the input reads as it did. -/
def fnExactIsMonotoneSpec : ChangeSpec := { name := "fnExactIsMonotone", fn := fun _ => fun
  | [d] => { results := [.lit (.bool true)], args := [d] }
  | _ => none }
def fnExactIsMonotoneRow : OpenClaim := { program := "ytmkgocdgkdglnaa", sum := "e7db189f4cbffbf217e5365d9f25640884e6a5c6e9d27d81e8219bc069c2e017", func := "loop.example/g01923/laws.FnExactIsMonotone", spec := "fnExactIsMonotone", unfollowed := true, recurses := true, apart := false }
def FnExactIsMonotoneSaid : Prop := fnExactIsMonotoneRow.holds Try.pinned (OpenSpec.ofChange fnExactIsMonotoneSpec)

/-- ITS FALSE NEIGHBOUR: 'it returns false'. Refute it at one input. -/
def fnExactIsMonotoneWrong : ChangeSpec := { name := "fnExactIsMonotone", fn := fun _ => fun
  | [d] => { results := [.lit (.bool false)], args := [d] }
  | _ => none }
def FnExactIsMonotoneWrongFalsely : Prop := fnExactIsMonotoneRow.holds Try.pinned (OpenSpec.ofChange fnExactIsMonotoneWrong)

/-- 'laws.FnExactMonotoneViolation': WHATEVER THE INPUT: true; the input reads as it did. -/
def fnExactMonotoneViolationSpec : ChangeSpec := { name := "fnExactMonotoneViolation", fn := fun _ => fun
  | [d] => { results := [.lit (.bool true)], args := [d] }
  | _ => none }
def fnExactMonotoneViolationRow : OpenClaim := { program := "ytmkgocdgkdglnaa", sum := "e7db189f4cbffbf217e5365d9f25640884e6a5c6e9d27d81e8219bc069c2e017", func := "loop.example/g01923/laws.FnExactMonotoneViolation", spec := "fnExactMonotoneViolation", unfollowed := true, recurses := true, apart := false }
def FnExactMonotoneViolationSaid : Prop := fnExactMonotoneViolationRow.holds Try.pinned (OpenSpec.ofChange fnExactMonotoneViolationSpec)

/-- ITS FALSE NEIGHBOUR: 'it returns false'. Refute it at one input. -/
def fnExactMonotoneViolationWrong : ChangeSpec := { name := "fnExactMonotoneViolation", fn := fun _ => fun
  | [d] => { results := [.lit (.bool false)], args := [d] }
  | _ => none }
def FnExactMonotoneViolationWrongFalsely : Prop := fnExactMonotoneViolationRow.holds Try.pinned (OpenSpec.ofChange fnExactMonotoneViolationWrong)

/-- 'laws.FnExactBuildDiagram': WHATEVER THE INPUT: true; the input reads as it did. -/
def fnExactBuildDiagramSpec : ChangeSpec := { name := "fnExactBuildDiagram", fn := fun _ => fun
  | [d] => { results := [.lit (.bool true)], args := [d] }
  | _ => none }
def fnExactBuildDiagramRow : OpenClaim := { program := "ytmkgocdgkdglnaa", sum := "e7db189f4cbffbf217e5365d9f25640884e6a5c6e9d27d81e8219bc069c2e017", func := "loop.example/g01923/laws.FnExactBuildDiagram", spec := "fnExactBuildDiagram", unfollowed := true, recurses := true, apart := false }
def FnExactBuildDiagramSaid : Prop := fnExactBuildDiagramRow.holds Try.pinned (OpenSpec.ofChange fnExactBuildDiagramSpec)

/-- ITS FALSE NEIGHBOUR: 'it returns false'. Refute it at one input. -/
def fnExactBuildDiagramWrong : ChangeSpec := { name := "fnExactBuildDiagram", fn := fun _ => fun
  | [d] => { results := [.lit (.bool false)], args := [d] }
  | _ => none }
def FnExactBuildDiagramWrongFalsely : Prop := fnExactBuildDiagramRow.holds Try.pinned (OpenSpec.ofChange fnExactBuildDiagramWrong)

/-- 'laws.FnMonotone': WHATEVER THE INPUT: true; the input reads as it did. -/
def fnMonotoneSpec : ChangeSpec := { name := "fnMonotone", fn := fun _ => fun
  | [d] => { results := [.lit (.bool true)], args := [d] }
  | _ => none }
def fnMonotoneRow : OpenClaim := { program := "ytmkgocdgkdglnaa", sum := "e7db189f4cbffbf217e5365d9f25640884e6a5c6e9d27d81e8219bc069c2e017", func := "loop.example/g01923/laws.FnMonotone", spec := "fnMonotone", unfollowed := true, recurses := true, apart := false }
def FnMonotoneSaid : Prop := fnMonotoneRow.holds Try.pinned (OpenSpec.ofChange fnMonotoneSpec)

/-- ITS FALSE NEIGHBOUR: 'it returns false'. Refute it at one input. -/
def fnMonotoneWrong : ChangeSpec := { name := "fnMonotone", fn := fun _ => fun
  | [d] => { results := [.lit (.bool false)], args := [d] }
  | _ => none }
def FnMonotoneWrongFalsely : Prop := fnMonotoneRow.holds Try.pinned (OpenSpec.ofChange fnMonotoneWrong)

/- THE SECOND FORM. 'bulk': how many values and letters a reading holds, each counted each time it is reached (what is shared counts as often as it is met; a slice's spare places count too). A statement '..UptoSaid' is the law's where the arguments, and the package variables that the reading takes, are together of bulk at most 1048576: NARROWER than '..Said'. Prove '..Said' where nothing that the law and all that it calls make is longer than what came in: it says more and counts as full. Else prove '..UptoSaid'. A law counts once. -/
mutual
def uptoBulk {H : Type} : DataW H → Nat
  | .lit (.string bytes) => bytes.length + 1
  | .lit _ => 1
  | .nil => 1
  | .ptr d => uptoBulk d + 1
  | .slice elems spare => uptoBulkAll elems + uptoBulkAll spare + 1
  | .agg parts => uptoBulkAll parts + 1
  | .iface _ d => uptoBulk d + 1
  | .map entries => uptoBulkEntries entries + 1
  | .held _ => 1
def uptoBulkAll {H : Type} : List (DataW H) → Nat
  | [] => 0
  | d :: r => uptoBulk d + uptoBulkAll r
def uptoBulkEntries {H : Type} : List (Lit × DataW H) → Nat
  | [] => 0
  | x :: r => uptoBulkEntry x + uptoBulkEntries r
def uptoBulkEntry {H : Type} : Lit × DataW H → Nat
  | (.string bytes, d) => bytes.length + uptoBulk d + 1
  | (_, d) => uptoBulk d + 1
 end
def uptoSmall : (H : Type) → List (DataW H) → Bool := fun _ ds => decide (uptoBulkAll ds ≤ 1048576)
def OpenSpec.upto (s : _root_.Go.ChangeSpec) : _root_.Go.OpenSpec := { _root_.Go.OpenSpec.ofChange s with cond := some uptoSmall }

/-- 'laws.FnExactIsMonotone', WHERE WHAT IT READS IS OF BULK AT MOST 1048576: true; the input reads as it did. -/
def fnExactIsMonotoneUptoRow : OpenClaim := { program := "ytmkgocdgkdglnaa", sum := "e7db189f4cbffbf217e5365d9f25640884e6a5c6e9d27d81e8219bc069c2e017", func := "loop.example/g01923/laws.FnExactIsMonotone", spec := "fnExactIsMonotone", unfollowed := true, recurses := true, apart := false, narrowed := true }
def FnExactIsMonotoneUptoSaid : Prop := fnExactIsMonotoneUptoRow.holds Try.pinned (OpenSpec.upto fnExactIsMonotoneSpec)

/-- 'laws.FnExactMonotoneViolation', WHERE WHAT IT READS IS OF BULK AT MOST 1048576: true; the input reads as it did. -/
def fnExactMonotoneViolationUptoRow : OpenClaim := { program := "ytmkgocdgkdglnaa", sum := "e7db189f4cbffbf217e5365d9f25640884e6a5c6e9d27d81e8219bc069c2e017", func := "loop.example/g01923/laws.FnExactMonotoneViolation", spec := "fnExactMonotoneViolation", unfollowed := true, recurses := true, apart := false, narrowed := true }
def FnExactMonotoneViolationUptoSaid : Prop := fnExactMonotoneViolationUptoRow.holds Try.pinned (OpenSpec.upto fnExactMonotoneViolationSpec)

/-- 'laws.FnExactBuildDiagram', WHERE WHAT IT READS IS OF BULK AT MOST 1048576: true; the input reads as it did. -/
def fnExactBuildDiagramUptoRow : OpenClaim := { program := "ytmkgocdgkdglnaa", sum := "e7db189f4cbffbf217e5365d9f25640884e6a5c6e9d27d81e8219bc069c2e017", func := "loop.example/g01923/laws.FnExactBuildDiagram", spec := "fnExactBuildDiagram", unfollowed := true, recurses := true, apart := false, narrowed := true }
def FnExactBuildDiagramUptoSaid : Prop := fnExactBuildDiagramUptoRow.holds Try.pinned (OpenSpec.upto fnExactBuildDiagramSpec)

/-- 'laws.FnMonotone', WHERE WHAT IT READS IS OF BULK AT MOST 1048576: true; the input reads as it did. -/
def fnMonotoneUptoRow : OpenClaim := { program := "ytmkgocdgkdglnaa", sum := "e7db189f4cbffbf217e5365d9f25640884e6a5c6e9d27d81e8219bc069c2e017", func := "loop.example/g01923/laws.FnMonotone", spec := "fnMonotone", unfollowed := true, recurses := true, apart := false, narrowed := true }
def FnMonotoneUptoSaid : Prop := fnMonotoneUptoRow.holds Try.pinned (OpenSpec.upto fnMonotoneSpec)

end Rows
end Go.Proofs.Ytmkgocdgkdglnaa
