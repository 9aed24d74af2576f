/-
  DERIVED. GIVEN WITH THE SEED: THE CARDS: each row of YtmgiijdejigdhaaGreatDoorRows.lean that lists a variable, with what it lists TIED to the program's text (the seventh form; the later family's looks); each row that meets fmt, with fmt's text TOLD by the authors' own Lean function (tested against real Go, not proved from fmt's source: count such statements apart). THE CARD IS WHAT COUNTS. Prove the row's statement (the work); the ties are given (YtmgiijdejigdhaaGreatDoorTie.lean); close each card by the builder's one call (the guide's Derived/Test/ToyasCard.lean, 'card_holds'). Laid BY PROGRAM, IN A SANDBOX (cutbox-door.mjs). By AI agents, Wed Nov 11 2026. No macro, syntax, notation, axiom, sorry.
-/
import Derived.Test.YtmgiijdejigdhaaGreatDoorRows
import GoSem.ClaimSeven
namespace Go.Proofs.YtmgiijdejigdhaaGreatDoor
namespace Rows

/-- THE TIED CARD OF 'laws.FnDiagrams'. -/
def fnDiagramsCard : Claim7 := { stood := { row := fnDiagramsRow, standIns := [], harness := (true, "86ef12bd2adf38fc1ccdcaa4e9a5d9266fbaf334c881d865d2cdfe8f9148da41"), looks := false }, kinds := [], alts := [], laidByText := true, laidKinds := [.data, .data, .data, .widerDeep], laidTests := true, laidLooks := .later }
def FnDiagramsCardSaid : Prop := Claim7.holds Tryz.pinned (.plain (OpenSpec.ofChange fnDiagramsSpec)) fnDiagramsCard

/-- THE SECOND FORM's CARD OF 'laws.FnDiagrams'. -/
def fnDiagramsUptoCard : Claim7 := { stood := { row := fnDiagramsUptoRow, standIns := [], harness := (true, "86ef12bd2adf38fc1ccdcaa4e9a5d9266fbaf334c881d865d2cdfe8f9148da41"), looks := false }, kinds := [], alts := [], laidByText := true, laidKinds := [.data, .data, .data, .widerDeep], laidTests := true, laidLooks := .later }
def FnDiagramsUptoCardSaid : Prop := Claim7.holds Tryz.pinned (.plain (OpenSpec.upto fnDiagramsSpec)) fnDiagramsUptoCard
end Rows
end Go.Proofs.YtmgiijdejigdhaaGreatDoor
