/-
  No cell of these rows narrows 'for every input' (looked for: loops, veiled, ifaces, maps, wideKeys, modest, calm, conditions, laid).
  DERIVED. THE GIVEN ROWS OF THIS SEAT. 6 by the template 'for every input the law returns true; each argument reads behind the call as it read before'; 0 by the template 'total and deterministic' (their statements: YtofiipblinonoaaTotals.lean).
  GIVEN WITH THE SEED: the statements are not yours to turn. If you find one false, say at which input.
  Laid BY PROGRAM, IN A SANDBOX (cutbox-rows.mjs): the forced cells as the released guide's own fill.sh prints them over the translation ccdf4de775cc4622… (all of the seat's roots in one cut). By AI agents, Wed Nov 11 2026. No macro, syntax, notation, axiom, sorry.
-/
import Derived.Test.YtofiipblinonoaaChecked
import GoSem.Claim
import GoSem.ClaimJoined
import GoSem.ClaimMapViews
import Derived.JoinedTies
import Derived.KernelRfl
namespace Go.Proofs.Ytofiipblinonoaa
/- THE CELL 'sum', in the pinned program and in every row, IS THE sha256 OF THE DUMP (.gsa) THAT YtofiipblinonoaaProg.lean LOADS. Nothing in Lean hashes anything: it is a label: what it is worth is what the hold of that sum in a sandbox is worth. -/
noncomputable def Try.pinned : Pinned := { name := "ytofiipblinonoaa", sum := "ccdf4de775cc46220341c38948a2575e52a9552524134294ae4780b559ef1b29", checked := Try.checked }
namespace Rows
def none {H : Type} : Left H := { results := [], args := [] }

/-- 'laws.FnExactSimilarStrings': WHATEVER THE INPUT: true; the input reads as it did. -/
def fnExactSimilarStringsSpec : ChangeSpec := { name := "fnExactSimilarStrings", fn := fun _ => fun
  | [d1, d2, d3] => { results := [.lit (.bool true)], args := [d1, d2, d3] }
  | _ => none }
def fnExactSimilarStringsRow : OpenClaim := { program := "ytofiipblinonoaa", sum := "ccdf4de775cc46220341c38948a2575e52a9552524134294ae4780b559ef1b29", func := "loop.example/g01923/laws.FnExactSimilarStrings", spec := "fnExactSimilarStrings", apart := false }
def FnExactSimilarStringsSaid : Prop := fnExactSimilarStringsRow.holds Try.pinned (OpenSpec.ofChange fnExactSimilarStringsSpec)

/-- ITS FALSE NEIGHBOUR: 'it returns false'. Refute it at one input. -/
def fnExactSimilarStringsWrong : ChangeSpec := { name := "fnExactSimilarStrings", fn := fun _ => fun
  | [d1, d2, d3] => { results := [.lit (.bool false)], args := [d1, d2, d3] }
  | _ => none }
def FnExactSimilarStringsWrongFalsely : Prop := fnExactSimilarStringsRow.holds Try.pinned (OpenSpec.ofChange fnExactSimilarStringsWrong)

/-- 'laws.FnExactGramFilter': WHATEVER THE INPUT: true; the input reads as it did. -/
def fnExactGramFilterSpec : ChangeSpec := { name := "fnExactGramFilter", fn := fun _ => fun
  | [d1, d2, d3, d4] => { results := [.lit (.bool true)], args := [d1, d2, d3, d4] }
  | _ => none }
def fnExactGramFilterRow : OpenClaim := { program := "ytofiipblinonoaa", sum := "ccdf4de775cc46220341c38948a2575e52a9552524134294ae4780b559ef1b29", func := "loop.example/g01923/laws.FnExactGramFilter", spec := "fnExactGramFilter", recurses := true, apart := false }
def FnExactGramFilterSaid : Prop := fnExactGramFilterRow.holds Try.pinned (OpenSpec.ofChange fnExactGramFilterSpec)

/-- ITS FALSE NEIGHBOUR: 'it returns false'. Refute it at one input. -/
def fnExactGramFilterWrong : ChangeSpec := { name := "fnExactGramFilter", fn := fun _ => fun
  | [d1, d2, d3, d4] => { results := [.lit (.bool false)], args := [d1, d2, d3, d4] }
  | _ => none }
def FnExactGramFilterWrongFalsely : Prop := fnExactGramFilterRow.holds Try.pinned (OpenSpec.ofChange fnExactGramFilterWrong)

/-- 'laws.FnExactPassesFilters': WHATEVER THE INPUT: true; the input reads as it did. -/
def fnExactPassesFiltersSpec : ChangeSpec := { name := "fnExactPassesFilters", fn := fun _ => fun
  | [d1, d2, d3] => { results := [.lit (.bool true)], args := [d1, d2, d3] }
  | _ => none }
def fnExactPassesFiltersRow : OpenClaim := { program := "ytofiipblinonoaa", sum := "ccdf4de775cc46220341c38948a2575e52a9552524134294ae4780b559ef1b29", func := "loop.example/g01923/laws.FnExactPassesFilters", spec := "fnExactPassesFilters", recurses := true, apart := false }
def FnExactPassesFiltersSaid : Prop := fnExactPassesFiltersRow.holds Try.pinned (OpenSpec.ofChange fnExactPassesFiltersSpec)

/-- ITS FALSE NEIGHBOUR: 'it returns false'. Refute it at one input. -/
def fnExactPassesFiltersWrong : ChangeSpec := { name := "fnExactPassesFilters", fn := fun _ => fun
  | [d1, d2, d3] => { results := [.lit (.bool false)], args := [d1, d2, d3] }
  | _ => none }
def FnExactPassesFiltersWrongFalsely : Prop := fnExactPassesFiltersRow.holds Try.pinned (OpenSpec.ofChange fnExactPassesFiltersWrong)

/-- 'laws.FnFilters': WHATEVER THE INPUT: true; the input reads as it did. -/
def fnFiltersSpec : ChangeSpec := { name := "fnFilters", fn := fun _ => fun
  | [d] => { results := [.lit (.bool true)], args := [d] }
  | _ => none }
def fnFiltersRow : OpenClaim := { program := "ytofiipblinonoaa", sum := "ccdf4de775cc46220341c38948a2575e52a9552524134294ae4780b559ef1b29", func := "loop.example/g01923/laws.FnFilters", spec := "fnFilters", recurses := true, apart := false }
def FnFiltersSaid : Prop := fnFiltersRow.holds Try.pinned (OpenSpec.ofChange fnFiltersSpec)

/-- ITS FALSE NEIGHBOUR: 'it returns false'. Refute it at one input. -/
def fnFiltersWrong : ChangeSpec := { name := "fnFilters", fn := fun _ => fun
  | [d] => { results := [.lit (.bool false)], args := [d] }
  | _ => none }
def FnFiltersWrongFalsely : Prop := fnFiltersRow.holds Try.pinned (OpenSpec.ofChange fnFiltersWrong)

/-- 'laws.FnOrders': WHATEVER THE INPUT: true; the input reads as it did. -/
def fnOrdersSpec : ChangeSpec := { name := "fnOrders", fn := fun _ => fun
  | [d] => { results := [.lit (.bool true)], args := [d] }
  | _ => none }
def fnOrdersRow : OpenClaim := { program := "ytofiipblinonoaa", sum := "ccdf4de775cc46220341c38948a2575e52a9552524134294ae4780b559ef1b29", func := "loop.example/g01923/laws.FnOrders", spec := "fnOrders", inPlace := ["internal/bytealg.abigen_runtime_cmpstring"], unfollowed := true, recurses := true, apart := false }
def FnOrdersSaid : Prop := fnOrdersRow.holds Try.pinned (OpenSpec.ofChange fnOrdersSpec)

/-- ITS FALSE NEIGHBOUR: 'it returns false'. Refute it at one input. -/
def fnOrdersWrong : ChangeSpec := { name := "fnOrders", fn := fun _ => fun
  | [d] => { results := [.lit (.bool false)], args := [d] }
  | _ => none }
def FnOrdersWrongFalsely : Prop := fnOrdersRow.holds Try.pinned (OpenSpec.ofChange fnOrdersWrong)

/-- 'laws.FnMonotone': WHATEVER THE INPUT: true; the input reads as it did. -/
def fnMonotoneSpec : ChangeSpec := { name := "fnMonotone", fn := fun _ => fun
  | [d] => { results := [.lit (.bool true)], args := [d] }
  | _ => none }
def fnMonotoneRow : OpenClaim := { program := "ytofiipblinonoaa", sum := "ccdf4de775cc46220341c38948a2575e52a9552524134294ae4780b559ef1b29", func := "loop.example/g01923/laws.FnMonotone", spec := "fnMonotone", unfollowed := true, recurses := true, apart := false }
def FnMonotoneSaid : Prop := fnMonotoneRow.holds Try.pinned (OpenSpec.ofChange fnMonotoneSpec)

/-- ITS FALSE NEIGHBOUR: 'it returns false'. Refute it at one input. -/
def fnMonotoneWrong : ChangeSpec := { name := "fnMonotone", fn := fun _ => fun
  | [d] => { results := [.lit (.bool false)], args := [d] }
  | _ => none }
def FnMonotoneWrongFalsely : Prop := fnMonotoneRow.holds Try.pinned (OpenSpec.ofChange fnMonotoneWrong)

/- THE SECOND FORM. 'bulk': how many values and letters a reading holds, each counted each time it is reached (what is shared counts as often as it is met; a slice's spare places count too). A statement '..UptoSaid' is the law's where the arguments, and the package variables that the reading takes, are together of bulk at most 1048576: NARROWER than '..Said'. Prove '..Said' where nothing that the law and all that it calls make is longer than what came in: it says more and counts as full. Else prove '..UptoSaid'. A law counts once. -/
mutual
def uptoBulk {H : Type} : DataW H → Nat
  | .lit (.string bytes) => bytes.length + 1
  | .lit _ => 1
  | .nil => 1
  | .ptr d => uptoBulk d + 1
  | .slice elems spare => uptoBulkAll elems + uptoBulkAll spare + 1
  | .agg parts => uptoBulkAll parts + 1
  | .iface _ d => uptoBulk d + 1
  | .map entries => uptoBulkEntries entries + 1
  | .held _ => 1
def uptoBulkAll {H : Type} : List (DataW H) → Nat
  | [] => 0
  | d :: r => uptoBulk d + uptoBulkAll r
def uptoBulkEntries {H : Type} : List (Lit × DataW H) → Nat
  | [] => 0
  | x :: r => uptoBulkEntry x + uptoBulkEntries r
def uptoBulkEntry {H : Type} : Lit × DataW H → Nat
  | (.string bytes, d) => bytes.length + uptoBulk d + 1
  | (_, d) => uptoBulk d + 1
 end
def uptoSmall : (H : Type) → List (DataW H) → Bool := fun _ ds => decide (uptoBulkAll ds ≤ 1048576)
def OpenSpec.upto (s : _root_.Go.ChangeSpec) : _root_.Go.OpenSpec := { _root_.Go.OpenSpec.ofChange s with cond := some uptoSmall }

/-- 'laws.FnExactSimilarStrings', WHERE WHAT IT READS IS OF BULK AT MOST 1048576: true; the input reads as it did. -/
def fnExactSimilarStringsUptoRow : OpenClaim := { program := "ytofiipblinonoaa", sum := "ccdf4de775cc46220341c38948a2575e52a9552524134294ae4780b559ef1b29", func := "loop.example/g01923/laws.FnExactSimilarStrings", spec := "fnExactSimilarStrings", apart := false, narrowed := true }
def FnExactSimilarStringsUptoSaid : Prop := fnExactSimilarStringsUptoRow.holds Try.pinned (OpenSpec.upto fnExactSimilarStringsSpec)

/-- 'laws.FnExactGramFilter', WHERE WHAT IT READS IS OF BULK AT MOST 1048576: true; the input reads as it did. -/
def fnExactGramFilterUptoRow : OpenClaim := { program := "ytofiipblinonoaa", sum := "ccdf4de775cc46220341c38948a2575e52a9552524134294ae4780b559ef1b29", func := "loop.example/g01923/laws.FnExactGramFilter", spec := "fnExactGramFilter", recurses := true, apart := false, narrowed := true }
def FnExactGramFilterUptoSaid : Prop := fnExactGramFilterUptoRow.holds Try.pinned (OpenSpec.upto fnExactGramFilterSpec)

/-- 'laws.FnExactPassesFilters', WHERE WHAT IT READS IS OF BULK AT MOST 1048576: true; the input reads as it did. -/
def fnExactPassesFiltersUptoRow : OpenClaim := { program := "ytofiipblinonoaa", sum := "ccdf4de775cc46220341c38948a2575e52a9552524134294ae4780b559ef1b29", func := "loop.example/g01923/laws.FnExactPassesFilters", spec := "fnExactPassesFilters", recurses := true, apart := false, narrowed := true }
def FnExactPassesFiltersUptoSaid : Prop := fnExactPassesFiltersUptoRow.holds Try.pinned (OpenSpec.upto fnExactPassesFiltersSpec)

/-- 'laws.FnFilters', WHERE WHAT IT READS IS OF BULK AT MOST 1048576: true; the input reads as it did. -/
def fnFiltersUptoRow : OpenClaim := { program := "ytofiipblinonoaa", sum := "ccdf4de775cc46220341c38948a2575e52a9552524134294ae4780b559ef1b29", func := "loop.example/g01923/laws.FnFilters", spec := "fnFilters", recurses := true, apart := false, narrowed := true }
def FnFiltersUptoSaid : Prop := fnFiltersUptoRow.holds Try.pinned (OpenSpec.upto fnFiltersSpec)

/-- 'laws.FnOrders', WHERE WHAT IT READS IS OF BULK AT MOST 1048576: true; the input reads as it did. -/
def fnOrdersUptoRow : OpenClaim := { program := "ytofiipblinonoaa", sum := "ccdf4de775cc46220341c38948a2575e52a9552524134294ae4780b559ef1b29", func := "loop.example/g01923/laws.FnOrders", spec := "fnOrders", inPlace := ["internal/bytealg.abigen_runtime_cmpstring"], unfollowed := true, recurses := true, apart := false, narrowed := true }
def FnOrdersUptoSaid : Prop := fnOrdersUptoRow.holds Try.pinned (OpenSpec.upto fnOrdersSpec)

/-- 'laws.FnMonotone', WHERE WHAT IT READS IS OF BULK AT MOST 1048576: true; the input reads as it did. -/
def fnMonotoneUptoRow : OpenClaim := { program := "ytofiipblinonoaa", sum := "ccdf4de775cc46220341c38948a2575e52a9552524134294ae4780b559ef1b29", func := "loop.example/g01923/laws.FnMonotone", spec := "fnMonotone", unfollowed := true, recurses := true, apart := false, narrowed := true }
def FnMonotoneUptoSaid : Prop := fnMonotoneUptoRow.holds Try.pinned (OpenSpec.upto fnMonotoneSpec)

end Rows
end Go.Proofs.Ytofiipblinonoaa
