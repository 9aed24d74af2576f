/-
  No cell of these rows narrows 'for every input' (looked for: loops, veiled, ifaces, maps, wideKeys, modest, calm, conditions, laid).
  DERIVED. THE GIVEN ROWS OF THIS SEAT. 2 by the template 'for every input the law returns true; each argument reads behind the call as it read before'; 0 by the template 'total and deterministic' (their statements: YtfcocbokgfmjfaaGreatTotals.lean).
  GIVEN WITH THE SEED: the statements are not yours to turn. If you find one false, say at which input.
  Laid BY PROGRAM, IN A SANDBOX (cutbox-rows.mjs): the forced cells as the released guide's own fill.sh prints them over the translation 8c935ee33a99f22e… (all of the seat's roots in one cut). By AI agents, Wed Nov 11 2026. No macro, syntax, notation, axiom, sorry.
-/
import Derived.Test.YtfcocbokgfmjfaaGreatChecked
import GoSem.Claim
import GoSem.ClaimJoined
import GoSem.ClaimMapViews
import Derived.JoinedTies
import Derived.KernelRfl
namespace Go.Proofs.YtfcocbokgfmjfaaGreat
/- THE CELL 'sum', in the pinned program and in every row, IS THE sha256 OF THE DUMP (.gsa) THAT YtfcocbokgfmjfaaGreatProg.lean LOADS. Nothing in Lean hashes anything: it is a label: what it is worth is what the hold of that sum in a sandbox is worth. -/
noncomputable def Tryz.pinned : Pinned := { name := "ytfcocbokgfmjfaagreat", sum := "8c935ee33a99f22e870ed4f183722376be06cedfba87fff92b5125e25f08d77c", checked := Tryz.checked }
namespace Rows
def none {H : Type} : Left H := { results := [], args := [] }

/-- 'laws.FnExactSetCandidates': WHATEVER THE INPUT: true; the input reads as it did. -/
def fnExactSetCandidatesSpec : ChangeSpec := { name := "fnExactSetCandidates", fn := fun _ => fun
  | [d1, d2] => { results := [.lit (.bool true)], args := [d1, d2] }
  | _ => none }
def fnExactSetCandidatesRow : OpenClaim := { program := "ytfcocbokgfmjfaagreat", sum := "8c935ee33a99f22e870ed4f183722376be06cedfba87fff92b5125e25f08d77c", func := "loop.example/g01923/laws.FnExactSetCandidates", spec := "fnExactSetCandidates", inPlace := ["internal/bytealg.abigen_runtime_cmpstring"], unfollowed := true, recurses := true, apart := false }
def FnExactSetCandidatesSaid : Prop := fnExactSetCandidatesRow.holds Tryz.pinned (OpenSpec.ofChange fnExactSetCandidatesSpec)

/-- ITS FALSE NEIGHBOUR: 'it returns false'. Refute it at one input. -/
def fnExactSetCandidatesWrong : ChangeSpec := { name := "fnExactSetCandidates", fn := fun _ => fun
  | [d1, d2] => { results := [.lit (.bool false)], args := [d1, d2] }
  | _ => none }
def FnExactSetCandidatesWrongFalsely : Prop := fnExactSetCandidatesRow.holds Tryz.pinned (OpenSpec.ofChange fnExactSetCandidatesWrong)

/-- 'laws.FnPrefixes': WHATEVER THE INPUT: true; the input reads as it did. -/
def fnPrefixesSpec : ChangeSpec := { name := "fnPrefixes", fn := fun _ => fun
  | [d] => { results := [.lit (.bool true)], args := [d] }
  | _ => none }
def fnPrefixesRow : OpenClaim := { program := "ytfcocbokgfmjfaagreat", sum := "8c935ee33a99f22e870ed4f183722376be06cedfba87fff92b5125e25f08d77c", func := "loop.example/g01923/laws.FnPrefixes", spec := "fnPrefixes", inPlace := ["internal/bytealg.abigen_runtime_cmpstring"], unfollowed := true, recurses := true, apart := false }
def FnPrefixesSaid : Prop := fnPrefixesRow.holds Tryz.pinned (OpenSpec.ofChange fnPrefixesSpec)

/-- ITS FALSE NEIGHBOUR: 'it returns false'. Refute it at one input. -/
def fnPrefixesWrong : ChangeSpec := { name := "fnPrefixes", fn := fun _ => fun
  | [d] => { results := [.lit (.bool false)], args := [d] }
  | _ => none }
def FnPrefixesWrongFalsely : Prop := fnPrefixesRow.holds Tryz.pinned (OpenSpec.ofChange fnPrefixesWrong)

/- THE SECOND FORM. 'bulk': how many values and letters a reading holds, each counted each time it is reached (what is shared counts as often as it is met; a slice's spare places count too). A statement '..UptoSaid' is the law's where the arguments, and the package variables that the reading takes, are together of bulk at most 1048576: NARROWER than '..Said'. Prove '..Said' where nothing that the law and all that it calls make is longer than what came in: it says more and counts as full. Else prove '..UptoSaid'. A law counts once. -/
mutual
def uptoBulk {H : Type} : DataW H → Nat
  | .lit (.string bytes) => bytes.length + 1
  | .lit _ => 1
  | .nil => 1
  | .ptr d => uptoBulk d + 1
  | .slice elems spare => uptoBulkAll elems + uptoBulkAll spare + 1
  | .agg parts => uptoBulkAll parts + 1
  | .iface _ d => uptoBulk d + 1
  | .map entries => uptoBulkEntries entries + 1
  | .held _ => 1
def uptoBulkAll {H : Type} : List (DataW H) → Nat
  | [] => 0
  | d :: r => uptoBulk d + uptoBulkAll r
def uptoBulkEntries {H : Type} : List (Lit × DataW H) → Nat
  | [] => 0
  | x :: r => uptoBulkEntry x + uptoBulkEntries r
def uptoBulkEntry {H : Type} : Lit × DataW H → Nat
  | (.string bytes, d) => bytes.length + uptoBulk d + 1
  | (_, d) => uptoBulk d + 1
 end
def uptoSmall : (H : Type) → List (DataW H) → Bool := fun _ ds => decide (uptoBulkAll ds ≤ 1048576)
def OpenSpec.upto (s : _root_.Go.ChangeSpec) : _root_.Go.OpenSpec := { _root_.Go.OpenSpec.ofChange s with cond := some uptoSmall }

/-- 'laws.FnExactSetCandidates', WHERE WHAT IT READS IS OF BULK AT MOST 1048576: true; the input reads as it did. -/
def fnExactSetCandidatesUptoRow : OpenClaim := { program := "ytfcocbokgfmjfaagreat", sum := "8c935ee33a99f22e870ed4f183722376be06cedfba87fff92b5125e25f08d77c", func := "loop.example/g01923/laws.FnExactSetCandidates", spec := "fnExactSetCandidates", inPlace := ["internal/bytealg.abigen_runtime_cmpstring"], unfollowed := true, recurses := true, apart := false, narrowed := true }
def FnExactSetCandidatesUptoSaid : Prop := fnExactSetCandidatesUptoRow.holds Tryz.pinned (OpenSpec.upto fnExactSetCandidatesSpec)

/-- 'laws.FnPrefixes', WHERE WHAT IT READS IS OF BULK AT MOST 1048576: true; the input reads as it did. -/
def fnPrefixesUptoRow : OpenClaim := { program := "ytfcocbokgfmjfaagreat", sum := "8c935ee33a99f22e870ed4f183722376be06cedfba87fff92b5125e25f08d77c", func := "loop.example/g01923/laws.FnPrefixes", spec := "fnPrefixes", inPlace := ["internal/bytealg.abigen_runtime_cmpstring"], unfollowed := true, recurses := true, apart := false, narrowed := true }
def FnPrefixesUptoSaid : Prop := fnPrefixesUptoRow.holds Tryz.pinned (OpenSpec.upto fnPrefixesSpec)

end Rows
end Go.Proofs.YtfcocbokgfmjfaaGreat
