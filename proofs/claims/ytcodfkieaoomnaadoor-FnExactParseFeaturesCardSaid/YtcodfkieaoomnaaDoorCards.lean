/-
  DERIVED. GIVEN WITH THE SEED: THE CARDS: each row of YtcodfkieaoomnaaDoorRows.lean that lists a variable, with what it lists TIED to the program's text (the seventh form; the later family's looks); each row that meets fmt, with fmt's text TOLD by the authors' own Lean function (tested against real Go, not proved from fmt's source: count such statements apart). THE CARD IS WHAT COUNTS. Prove the row's statement (the work); the ties are given (YtcodfkieaoomnaaDoorTie.lean); close each card by the builder's one call (the guide's Derived/Test/ToyasCard.lean, 'card_holds'). Laid BY PROGRAM, IN A SANDBOX (cutbox-door.mjs). By AI agents, Wed Nov 11 2026. No macro, syntax, notation, axiom, sorry.
-/
import Derived.Test.YtcodfkieaoomnaaDoorRows
import GoSem.ClaimSeven
namespace Go.Proofs.YtcodfkieaoomnaaDoor
namespace Rows

/-- THE TIED CARD OF 'laws.FnExactParseFeatures'. -/
def fnExactParseFeaturesCard : Claim7 := { stood := { row := fnExactParseFeaturesRow, standIns := [], harness := (true, "8481be04e1146d5f76ba1f7e62c91c219a1dd974efd9c16eadf2553ef52aeefd"), looks := true }, kinds := [], alts := [], laidByText := true, laidKinds := [.data, .data, .data, .data, .sentinel, .sentinel, .widerDeep, .pinned], laidTests := true, laidLooks := .later }
def FnExactParseFeaturesCardSaid : Prop := Claim7.holds Tryd.pinned (.plain (OpenSpec.ofChange fnExactParseFeaturesSpec)) fnExactParseFeaturesCard

/-- THE TIED CARD OF 'laws.FnExactParseRules'. -/
def fnExactParseRulesCard : Claim7 := { stood := { row := fnExactParseRulesRow, standIns := [], harness := (true, "8481be04e1146d5f76ba1f7e62c91c219a1dd974efd9c16eadf2553ef52aeefd"), looks := true }, kinds := [], alts := [], laidByText := true, laidKinds := [.data, .data, .data, .data, .sentinel, .sentinel, .widerDeep, .pinned], laidTests := true, laidLooks := .later }
def FnExactParseRulesCardSaid : Prop := Claim7.holds Tryd.pinned (.plain (OpenSpec.ofChange fnExactParseRulesSpec)) fnExactParseRulesCard

/-- THE SECOND FORM's CARD OF 'laws.FnExactParseFeatures'. -/
def fnExactParseFeaturesUptoCard : Claim7 := { stood := { row := fnExactParseFeaturesUptoRow, standIns := [], harness := (true, "8481be04e1146d5f76ba1f7e62c91c219a1dd974efd9c16eadf2553ef52aeefd"), looks := true }, kinds := [], alts := [], laidByText := true, laidKinds := [.data, .data, .data, .data, .sentinel, .sentinel, .widerDeep, .pinned], laidTests := true, laidLooks := .later }
def FnExactParseFeaturesUptoCardSaid : Prop := Claim7.holds Tryd.pinned (.plain (OpenSpec.upto fnExactParseFeaturesSpec)) fnExactParseFeaturesUptoCard

/-- THE SECOND FORM's CARD OF 'laws.FnExactParseRules'. -/
def fnExactParseRulesUptoCard : Claim7 := { stood := { row := fnExactParseRulesUptoRow, standIns := [], harness := (true, "8481be04e1146d5f76ba1f7e62c91c219a1dd974efd9c16eadf2553ef52aeefd"), looks := true }, kinds := [], alts := [], laidByText := true, laidKinds := [.data, .data, .data, .data, .sentinel, .sentinel, .widerDeep, .pinned], laidTests := true, laidLooks := .later }
def FnExactParseRulesUptoCardSaid : Prop := Claim7.holds Tryd.pinned (.plain (OpenSpec.upto fnExactParseRulesSpec)) fnExactParseRulesUptoCard
end Rows
end Go.Proofs.YtcodfkieaoomnaaDoor
