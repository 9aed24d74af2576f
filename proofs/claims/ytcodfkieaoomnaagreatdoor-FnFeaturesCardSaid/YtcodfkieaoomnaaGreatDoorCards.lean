/-
  DERIVED. GIVEN WITH THE SEED: THE CARDS: each row of YtcodfkieaoomnaaGreatDoorRows.lean that lists a variable, with what it lists TIED to the program's text (the seventh form; the later family's looks); each row that meets fmt, with fmt's text TOLD by the authors' own Lean function (tested against real Go, not proved from fmt's source: count such statements apart). THE CARD IS WHAT COUNTS. Prove the row's statement (the work); the ties are given (YtcodfkieaoomnaaGreatDoorTie.lean); close each card by the builder's one call (the guide's Derived/Test/ToyasCard.lean, 'card_holds'). Laid BY PROGRAM, IN A SANDBOX (cutbox-door.mjs). By AI agents, Wed Nov 11 2026. No macro, syntax, notation, axiom, sorry.
-/
import Derived.Test.YtcodfkieaoomnaaGreatDoorRows
import GoSem.ClaimSeven
namespace Go.Proofs.YtcodfkieaoomnaaGreatDoor
namespace Rows

/-- THE TIED CARD OF 'laws.FnDiagrams'. -/
def fnDiagramsCard : Claim7 := { stood := { row := fnDiagramsRow, standIns := [], harness := (true, "908acbfe91f7464b4815a56b1cb2445b63ce25e6756435799d13c8a7188bc849"), looks := true }, kinds := [], alts := [], laidByText := true, laidKinds := [.data, .data, .data, .widerDeep], laidTests := true, laidLooks := .later }
def FnDiagramsCardSaid : Prop := Claim7.holds Tryz.pinned (.plain (OpenSpec.ofChange fnDiagramsSpec)) fnDiagramsCard

/-- THE TIED CARD OF 'laws.FnExactBlockKeys'. -/
def fnExactBlockKeysCard : Claim7 := { stood := { row := fnExactBlockKeysRow, standIns := [], harness := (true, "908acbfe91f7464b4815a56b1cb2445b63ce25e6756435799d13c8a7188bc849"), looks := true }, kinds := [], alts := [], laidByText := true, laidKinds := [.data, .data, .data, .data, .sentinel, .sentinel, .data, .pinned], laidTests := true, laidLooks := .later }
def FnExactBlockKeysCardSaid : Prop := Claim7.holds Tryz.pinned (.plain (OpenSpec.ofChange fnExactBlockKeysSpec)) fnExactBlockKeysCard

/-- THE TIED CARD OF 'laws.FnExactShareBlock'. -/
def fnExactShareBlockCard : Claim7 := { stood := { row := fnExactShareBlockRow, standIns := [], harness := (true, "908acbfe91f7464b4815a56b1cb2445b63ce25e6756435799d13c8a7188bc849"), looks := true }, kinds := [], alts := [], laidByText := true, laidKinds := [.data, .data, .data, .data, .sentinel, .sentinel, .data, .pinned], laidTests := true, laidLooks := .later }
def FnExactShareBlockCardSaid : Prop := Claim7.holds Tryz.pinned (.plain (OpenSpec.ofChange fnExactShareBlockSpec)) fnExactShareBlockCard

/-- THE TIED CARD OF 'laws.FnExactLargestBlock'. -/
def fnExactLargestBlockCard : Claim7 := { stood := { row := fnExactLargestBlockRow, standIns := [], harness := (true, "908acbfe91f7464b4815a56b1cb2445b63ce25e6756435799d13c8a7188bc849"), looks := true }, kinds := [], alts := [], laidByText := true, laidKinds := [.data, .data, .data, .data, .sentinel, .sentinel, .data, .pinned], laidTests := true, laidLooks := .later }
def FnExactLargestBlockCardSaid : Prop := Claim7.holds Tryz.pinned (.plain (OpenSpec.ofChange fnExactLargestBlockSpec)) fnExactLargestBlockCard

/-- THE TIED CARD OF 'laws.FnExactOversizedBlocks'. -/
def fnExactOversizedBlocksCard : Claim7 := { stood := { row := fnExactOversizedBlocksRow, standIns := [], harness := (true, "908acbfe91f7464b4815a56b1cb2445b63ce25e6756435799d13c8a7188bc849"), looks := true }, kinds := [], alts := [], laidByText := true, laidKinds := [.data, .data, .data, .data, .sentinel, .sentinel, .data, .pinned], laidTests := true, laidLooks := .later }
def FnExactOversizedBlocksCardSaid : Prop := Claim7.holds Tryz.pinned (.plain (OpenSpec.ofChange fnExactOversizedBlocksSpec)) fnExactOversizedBlocksCard

/-- THE TIED CARD OF 'laws.FnExactBuildBlocks'. -/
def fnExactBuildBlocksCard : Claim7 := { stood := { row := fnExactBuildBlocksRow, standIns := [], harness := (true, "908acbfe91f7464b4815a56b1cb2445b63ce25e6756435799d13c8a7188bc849"), looks := true }, kinds := [], alts := [], laidByText := true, laidKinds := [.data, .data, .data, .data, .sentinel, .sentinel, .data, .pinned], laidTests := true, laidLooks := .later }
def FnExactBuildBlocksCardSaid : Prop := Claim7.holds Tryz.pinned (.plain (OpenSpec.ofChange fnExactBuildBlocksSpec)) fnExactBuildBlocksCard

/-- THE TIED CARD OF 'laws.FnFeatures'. -/
def fnFeaturesCard : Claim7 := { stood := { row := fnFeaturesRow, standIns := [], harness := (true, "908acbfe91f7464b4815a56b1cb2445b63ce25e6756435799d13c8a7188bc849"), looks := true }, kinds := [], alts := [], laidByText := true, laidKinds := [.data, .data, .data, .data, .sentinel, .sentinel, .data, .pinned], laidTests := true, laidLooks := .later }
def FnFeaturesCardSaid : Prop := Claim7.holds Tryz.pinned (.plain (OpenSpec.ofChange fnFeaturesSpec)) fnFeaturesCard

/-- THE TIED CARD OF 'laws.FnExactPairFeatures'. -/
def fnExactPairFeaturesCard : Claim7 := { stood := { row := fnExactPairFeaturesRow, standIns := [], harness := (true, "908acbfe91f7464b4815a56b1cb2445b63ce25e6756435799d13c8a7188bc849"), looks := true }, kinds := [], alts := [], laidByText := true, laidKinds := [.data, .data, .data, .data, .sentinel, .sentinel, .data, .pinned], laidTests := true, laidLooks := .later }
def FnExactPairFeaturesCardSaid : Prop := Claim7.holds Tryz.pinned (.plain (OpenSpec.ofChange fnExactPairFeaturesSpec)) fnExactPairFeaturesCard

/-- THE TIED CARD OF 'laws.FnExactBlockPairs'. -/
def fnExactBlockPairsCard : Claim7 := { stood := { row := fnExactBlockPairsRow, standIns := [], harness := (true, "908acbfe91f7464b4815a56b1cb2445b63ce25e6756435799d13c8a7188bc849"), looks := true }, kinds := [], alts := [], laidByText := true, laidKinds := [.data, .data, .data, .data, .sentinel, .sentinel, .data, .pinned], laidTests := true, laidLooks := .later }
def FnExactBlockPairsCardSaid : Prop := Claim7.holds Tryz.pinned (.plain (OpenSpec.ofChange fnExactBlockPairsSpec)) fnExactBlockPairsCard

/-- THE TIED CARD OF 'laws.FnBlocks'. -/
def fnBlocksCard : Claim7 := { stood := { row := fnBlocksRow, standIns := [], harness := (true, "908acbfe91f7464b4815a56b1cb2445b63ce25e6756435799d13c8a7188bc849"), looks := true }, kinds := [], alts := [], laidByText := true, laidKinds := [.data, .data, .data, .data, .sentinel, .sentinel, .data, .pinned], laidTests := true, laidLooks := .later }
def FnBlocksCardSaid : Prop := Claim7.holds Tryz.pinned (.plain (OpenSpec.ofChange fnBlocksSpec)) fnBlocksCard

/-- THE SECOND FORM's CARD OF 'laws.FnDiagrams'. -/
def fnDiagramsUptoCard : Claim7 := { stood := { row := fnDiagramsUptoRow, standIns := [], harness := (true, "908acbfe91f7464b4815a56b1cb2445b63ce25e6756435799d13c8a7188bc849"), looks := true }, kinds := [], alts := [], laidByText := true, laidKinds := [.data, .data, .data, .widerDeep], laidTests := true, laidLooks := .later }
def FnDiagramsUptoCardSaid : Prop := Claim7.holds Tryz.pinned (.plain (OpenSpec.upto fnDiagramsSpec)) fnDiagramsUptoCard

/-- THE SECOND FORM's CARD OF 'laws.FnExactBlockKeys'. -/
def fnExactBlockKeysUptoCard : Claim7 := { stood := { row := fnExactBlockKeysUptoRow, standIns := [], harness := (true, "908acbfe91f7464b4815a56b1cb2445b63ce25e6756435799d13c8a7188bc849"), looks := true }, kinds := [], alts := [], laidByText := true, laidKinds := [.data, .data, .data, .data, .sentinel, .sentinel, .data, .pinned], laidTests := true, laidLooks := .later }
def FnExactBlockKeysUptoCardSaid : Prop := Claim7.holds Tryz.pinned (.plain (OpenSpec.upto fnExactBlockKeysSpec)) fnExactBlockKeysUptoCard

/-- THE SECOND FORM's CARD OF 'laws.FnExactShareBlock'. -/
def fnExactShareBlockUptoCard : Claim7 := { stood := { row := fnExactShareBlockUptoRow, standIns := [], harness := (true, "908acbfe91f7464b4815a56b1cb2445b63ce25e6756435799d13c8a7188bc849"), looks := true }, kinds := [], alts := [], laidByText := true, laidKinds := [.data, .data, .data, .data, .sentinel, .sentinel, .data, .pinned], laidTests := true, laidLooks := .later }
def FnExactShareBlockUptoCardSaid : Prop := Claim7.holds Tryz.pinned (.plain (OpenSpec.upto fnExactShareBlockSpec)) fnExactShareBlockUptoCard

/-- THE SECOND FORM's CARD OF 'laws.FnExactLargestBlock'. -/
def fnExactLargestBlockUptoCard : Claim7 := { stood := { row := fnExactLargestBlockUptoRow, standIns := [], harness := (true, "908acbfe91f7464b4815a56b1cb2445b63ce25e6756435799d13c8a7188bc849"), looks := true }, kinds := [], alts := [], laidByText := true, laidKinds := [.data, .data, .data, .data, .sentinel, .sentinel, .data, .pinned], laidTests := true, laidLooks := .later }
def FnExactLargestBlockUptoCardSaid : Prop := Claim7.holds Tryz.pinned (.plain (OpenSpec.upto fnExactLargestBlockSpec)) fnExactLargestBlockUptoCard

/-- THE SECOND FORM's CARD OF 'laws.FnExactOversizedBlocks'. -/
def fnExactOversizedBlocksUptoCard : Claim7 := { stood := { row := fnExactOversizedBlocksUptoRow, standIns := [], harness := (true, "908acbfe91f7464b4815a56b1cb2445b63ce25e6756435799d13c8a7188bc849"), looks := true }, kinds := [], alts := [], laidByText := true, laidKinds := [.data, .data, .data, .data, .sentinel, .sentinel, .data, .pinned], laidTests := true, laidLooks := .later }
def FnExactOversizedBlocksUptoCardSaid : Prop := Claim7.holds Tryz.pinned (.plain (OpenSpec.upto fnExactOversizedBlocksSpec)) fnExactOversizedBlocksUptoCard

/-- THE SECOND FORM's CARD OF 'laws.FnExactBuildBlocks'. -/
def fnExactBuildBlocksUptoCard : Claim7 := { stood := { row := fnExactBuildBlocksUptoRow, standIns := [], harness := (true, "908acbfe91f7464b4815a56b1cb2445b63ce25e6756435799d13c8a7188bc849"), looks := true }, kinds := [], alts := [], laidByText := true, laidKinds := [.data, .data, .data, .data, .sentinel, .sentinel, .data, .pinned], laidTests := true, laidLooks := .later }
def FnExactBuildBlocksUptoCardSaid : Prop := Claim7.holds Tryz.pinned (.plain (OpenSpec.upto fnExactBuildBlocksSpec)) fnExactBuildBlocksUptoCard

/-- THE SECOND FORM's CARD OF 'laws.FnFeatures'. -/
def fnFeaturesUptoCard : Claim7 := { stood := { row := fnFeaturesUptoRow, standIns := [], harness := (true, "908acbfe91f7464b4815a56b1cb2445b63ce25e6756435799d13c8a7188bc849"), looks := true }, kinds := [], alts := [], laidByText := true, laidKinds := [.data, .data, .data, .data, .sentinel, .sentinel, .data, .pinned], laidTests := true, laidLooks := .later }
def FnFeaturesUptoCardSaid : Prop := Claim7.holds Tryz.pinned (.plain (OpenSpec.upto fnFeaturesSpec)) fnFeaturesUptoCard

/-- THE SECOND FORM's CARD OF 'laws.FnExactPairFeatures'. -/
def fnExactPairFeaturesUptoCard : Claim7 := { stood := { row := fnExactPairFeaturesUptoRow, standIns := [], harness := (true, "908acbfe91f7464b4815a56b1cb2445b63ce25e6756435799d13c8a7188bc849"), looks := true }, kinds := [], alts := [], laidByText := true, laidKinds := [.data, .data, .data, .data, .sentinel, .sentinel, .data, .pinned], laidTests := true, laidLooks := .later }
def FnExactPairFeaturesUptoCardSaid : Prop := Claim7.holds Tryz.pinned (.plain (OpenSpec.upto fnExactPairFeaturesSpec)) fnExactPairFeaturesUptoCard

/-- THE SECOND FORM's CARD OF 'laws.FnExactBlockPairs'. -/
def fnExactBlockPairsUptoCard : Claim7 := { stood := { row := fnExactBlockPairsUptoRow, standIns := [], harness := (true, "908acbfe91f7464b4815a56b1cb2445b63ce25e6756435799d13c8a7188bc849"), looks := true }, kinds := [], alts := [], laidByText := true, laidKinds := [.data, .data, .data, .data, .sentinel, .sentinel, .data, .pinned], laidTests := true, laidLooks := .later }
def FnExactBlockPairsUptoCardSaid : Prop := Claim7.holds Tryz.pinned (.plain (OpenSpec.upto fnExactBlockPairsSpec)) fnExactBlockPairsUptoCard

/-- THE SECOND FORM's CARD OF 'laws.FnBlocks'. -/
def fnBlocksUptoCard : Claim7 := { stood := { row := fnBlocksUptoRow, standIns := [], harness := (true, "908acbfe91f7464b4815a56b1cb2445b63ce25e6756435799d13c8a7188bc849"), looks := true }, kinds := [], alts := [], laidByText := true, laidKinds := [.data, .data, .data, .data, .sentinel, .sentinel, .data, .pinned], laidTests := true, laidLooks := .later }
def FnBlocksUptoCardSaid : Prop := Claim7.holds Tryz.pinned (.plain (OpenSpec.upto fnBlocksSpec)) fnBlocksUptoCard
end Rows
end Go.Proofs.YtcodfkieaoomnaaGreatDoor
