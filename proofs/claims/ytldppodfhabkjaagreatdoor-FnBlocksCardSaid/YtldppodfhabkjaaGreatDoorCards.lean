/-
  DERIVED. GIVEN WITH THE SEED: THE CARDS: each row of YtldppodfhabkjaaGreatDoorRows.lean that lists a variable, with what it lists TIED to the program's text (the seventh form; the later family's looks); each row that meets fmt, with fmt's text TOLD by the authors' own Lean function (tested against real Go, not proved from fmt's source: count such statements apart). THE CARD IS WHAT COUNTS. Prove the row's statement (the work); the ties are given (YtldppodfhabkjaaGreatDoorTie.lean); close each card by the builder's one call (the guide's Derived/Test/ToyasCard.lean, 'card_holds'). Laid BY PROGRAM, IN A SANDBOX (cutbox-door.mjs). By AI agents, Wed Nov 11 2026. No macro, syntax, notation, axiom, sorry.
-/
import Derived.Test.YtldppodfhabkjaaGreatDoorRows
import GoSem.ClaimSeven
namespace Go.Proofs.YtldppodfhabkjaaGreatDoor
namespace Rows

/-- THE TIED CARD OF 'laws.FnExactBuildBlocks'. -/
def fnExactBuildBlocksCard : Claim7 := { stood := { row := fnExactBuildBlocksRow, standIns := [], harness := (true, "cf382f3204a9602152169c0b0f0c1e4db8a67b81594d7847510438e92527690a"), looks := true }, kinds := [], alts := [], laidByText := true, laidKinds := [.data, .data, .data, .data, .sentinel, .sentinel, .data, .pinned], laidTests := true, laidLooks := .later }
def FnExactBuildBlocksCardSaid : Prop := Claim7.holds Tryz.pinned (.plain (OpenSpec.ofChange fnExactBuildBlocksSpec)) fnExactBuildBlocksCard

/-- THE TIED CARD OF 'laws.FnExactLargestBlock'. -/
def fnExactLargestBlockCard : Claim7 := { stood := { row := fnExactLargestBlockRow, standIns := [], harness := (true, "cf382f3204a9602152169c0b0f0c1e4db8a67b81594d7847510438e92527690a"), looks := true }, kinds := [], alts := [], laidByText := true, laidKinds := [.data, .data, .data, .data, .sentinel, .sentinel, .data, .pinned], laidTests := true, laidLooks := .later }
def FnExactLargestBlockCardSaid : Prop := Claim7.holds Tryz.pinned (.plain (OpenSpec.ofChange fnExactLargestBlockSpec)) fnExactLargestBlockCard

/-- THE TIED CARD OF 'laws.FnExactOversizedBlocks'. -/
def fnExactOversizedBlocksCard : Claim7 := { stood := { row := fnExactOversizedBlocksRow, standIns := [], harness := (true, "cf382f3204a9602152169c0b0f0c1e4db8a67b81594d7847510438e92527690a"), looks := true }, kinds := [], alts := [], laidByText := true, laidKinds := [.data, .data, .data, .data, .sentinel, .sentinel, .data, .pinned], laidTests := true, laidLooks := .later }
def FnExactOversizedBlocksCardSaid : Prop := Claim7.holds Tryz.pinned (.plain (OpenSpec.ofChange fnExactOversizedBlocksSpec)) fnExactOversizedBlocksCard

/-- THE TIED CARD OF 'laws.FnExactBlockPairs'. -/
def fnExactBlockPairsCard : Claim7 := { stood := { row := fnExactBlockPairsRow, standIns := [], harness := (true, "cf382f3204a9602152169c0b0f0c1e4db8a67b81594d7847510438e92527690a"), looks := true }, kinds := [], alts := [], laidByText := true, laidKinds := [.data, .data, .data, .data, .sentinel, .sentinel, .data, .pinned], laidTests := true, laidLooks := .later }
def FnExactBlockPairsCardSaid : Prop := Claim7.holds Tryz.pinned (.plain (OpenSpec.ofChange fnExactBlockPairsSpec)) fnExactBlockPairsCard

/-- THE TIED CARD OF 'laws.FnBlocks'. -/
def fnBlocksCard : Claim7 := { stood := { row := fnBlocksRow, standIns := [], harness := (true, "cf382f3204a9602152169c0b0f0c1e4db8a67b81594d7847510438e92527690a"), looks := true }, kinds := [], alts := [], laidByText := true, laidKinds := [.data, .data, .data, .data, .sentinel, .sentinel, .data, .pinned], laidTests := true, laidLooks := .later }
def FnBlocksCardSaid : Prop := Claim7.holds Tryz.pinned (.plain (OpenSpec.ofChange fnBlocksSpec)) fnBlocksCard

/-- THE SECOND FORM's CARD OF 'laws.FnExactBuildBlocks'. -/
def fnExactBuildBlocksUptoCard : Claim7 := { stood := { row := fnExactBuildBlocksUptoRow, standIns := [], harness := (true, "cf382f3204a9602152169c0b0f0c1e4db8a67b81594d7847510438e92527690a"), looks := true }, kinds := [], alts := [], laidByText := true, laidKinds := [.data, .data, .data, .data, .sentinel, .sentinel, .data, .pinned], laidTests := true, laidLooks := .later }
def FnExactBuildBlocksUptoCardSaid : Prop := Claim7.holds Tryz.pinned (.plain (OpenSpec.upto fnExactBuildBlocksSpec)) fnExactBuildBlocksUptoCard

/-- THE SECOND FORM's CARD OF 'laws.FnExactLargestBlock'. -/
def fnExactLargestBlockUptoCard : Claim7 := { stood := { row := fnExactLargestBlockUptoRow, standIns := [], harness := (true, "cf382f3204a9602152169c0b0f0c1e4db8a67b81594d7847510438e92527690a"), looks := true }, kinds := [], alts := [], laidByText := true, laidKinds := [.data, .data, .data, .data, .sentinel, .sentinel, .data, .pinned], laidTests := true, laidLooks := .later }
def FnExactLargestBlockUptoCardSaid : Prop := Claim7.holds Tryz.pinned (.plain (OpenSpec.upto fnExactLargestBlockSpec)) fnExactLargestBlockUptoCard

/-- THE SECOND FORM's CARD OF 'laws.FnExactOversizedBlocks'. -/
def fnExactOversizedBlocksUptoCard : Claim7 := { stood := { row := fnExactOversizedBlocksUptoRow, standIns := [], harness := (true, "cf382f3204a9602152169c0b0f0c1e4db8a67b81594d7847510438e92527690a"), looks := true }, kinds := [], alts := [], laidByText := true, laidKinds := [.data, .data, .data, .data, .sentinel, .sentinel, .data, .pinned], laidTests := true, laidLooks := .later }
def FnExactOversizedBlocksUptoCardSaid : Prop := Claim7.holds Tryz.pinned (.plain (OpenSpec.upto fnExactOversizedBlocksSpec)) fnExactOversizedBlocksUptoCard

/-- THE SECOND FORM's CARD OF 'laws.FnExactBlockPairs'. -/
def fnExactBlockPairsUptoCard : Claim7 := { stood := { row := fnExactBlockPairsUptoRow, standIns := [], harness := (true, "cf382f3204a9602152169c0b0f0c1e4db8a67b81594d7847510438e92527690a"), looks := true }, kinds := [], alts := [], laidByText := true, laidKinds := [.data, .data, .data, .data, .sentinel, .sentinel, .data, .pinned], laidTests := true, laidLooks := .later }
def FnExactBlockPairsUptoCardSaid : Prop := Claim7.holds Tryz.pinned (.plain (OpenSpec.upto fnExactBlockPairsSpec)) fnExactBlockPairsUptoCard

/-- THE SECOND FORM's CARD OF 'laws.FnBlocks'. -/
def fnBlocksUptoCard : Claim7 := { stood := { row := fnBlocksUptoRow, standIns := [], harness := (true, "cf382f3204a9602152169c0b0f0c1e4db8a67b81594d7847510438e92527690a"), looks := true }, kinds := [], alts := [], laidByText := true, laidKinds := [.data, .data, .data, .data, .sentinel, .sentinel, .data, .pinned], laidTests := true, laidLooks := .later }
def FnBlocksUptoCardSaid : Prop := Claim7.holds Tryz.pinned (.plain (OpenSpec.upto fnBlocksSpec)) fnBlocksUptoCard
end Rows
end Go.Proofs.YtldppodfhabkjaaGreatDoor
