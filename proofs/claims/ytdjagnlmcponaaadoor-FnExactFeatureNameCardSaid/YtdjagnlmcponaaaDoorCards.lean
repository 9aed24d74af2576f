/-
  DERIVED. GIVEN WITH THE SEED: THE CARDS: each row of YtdjagnlmcponaaaDoorRows.lean that lists a variable, with what it lists TIED to the program's text (the seventh form; the later family's looks); each row that meets fmt, with fmt's text TOLD by the authors' own Lean function (tested against real Go, not proved from fmt's source: count such statements apart). THE CARD IS WHAT COUNTS. Prove the row's statement (the work); the ties are given (YtdjagnlmcponaaaDoorTie.lean); close each card by the builder's one call (the guide's Derived/Test/ToyasCard.lean, 'card_holds'). Laid BY PROGRAM, IN A SANDBOX (cutbox-door.mjs). By AI agents, Wed Nov 11 2026. No macro, syntax, notation, axiom, sorry.
-/
import Derived.Test.YtdjagnlmcponaaaDoorRows
import GoSem.ClaimSeven
namespace Go.Proofs.YtdjagnlmcponaaaDoor
namespace Rows

/-- THE TIED CARD OF 'laws.FnExactFeatureName'. -/
def fnExactFeatureNameCard : Claim7 := { stood := { row := fnExactFeatureNameRow, standIns := [], harness := (true, "987871b1013b9493d26f94fd888ea205ad7871bfa9f241ae003234fc3e366877"), looks := false }, kinds := [], alts := [], laidByText := true, laidKinds := [.widerDeep], laidTests := true, laidLooks := .later }
def FnExactFeatureNameCardSaid : Prop := Claim7.holds Tryd.pinned (.plain (OpenSpec.ofChange fnExactFeatureNameSpec)) fnExactFeatureNameCard

/-- THE SECOND FORM's CARD OF 'laws.FnExactFeatureName'. -/
def fnExactFeatureNameUptoCard : Claim7 := { stood := { row := fnExactFeatureNameUptoRow, standIns := [], harness := (true, "987871b1013b9493d26f94fd888ea205ad7871bfa9f241ae003234fc3e366877"), looks := false }, kinds := [], alts := [], laidByText := true, laidKinds := [.widerDeep], laidTests := true, laidLooks := .later }
def FnExactFeatureNameUptoCardSaid : Prop := Claim7.holds Tryd.pinned (.plain (OpenSpec.upto fnExactFeatureNameSpec)) fnExactFeatureNameUptoCard
end Rows
end Go.Proofs.YtdjagnlmcponaaaDoor
