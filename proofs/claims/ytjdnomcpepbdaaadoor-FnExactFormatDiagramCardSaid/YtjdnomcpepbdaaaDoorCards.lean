/-
  DERIVED. GIVEN WITH THE SEED: THE CARDS: each row of YtjdnomcpepbdaaaDoorRows.lean that lists a variable, with what it lists TIED to the program's text (the seventh form; the later family's looks); each row that meets fmt, with fmt's text TOLD by the authors' own Lean function (tested against real Go, not proved from fmt's source: count such statements apart). THE CARD IS WHAT COUNTS. Prove the row's statement (the work); the ties are given (YtjdnomcpepbdaaaDoorTie.lean); close each card by the builder's one call (the guide's Derived/Test/ToyasCard.lean, 'card_holds'). Laid BY PROGRAM, IN A SANDBOX (cutbox-door.mjs). By AI agents, Wed Nov 11 2026. No macro, syntax, notation, axiom, sorry.
-/
import Derived.Test.YtjdnomcpepbdaaaDoorRows
import GoSem.ClaimSeven
namespace Go.Proofs.YtjdnomcpepbdaaaDoor
namespace Rows

/-- THE TIED CARD OF 'laws.FnExactFormatFeatures'. -/
def fnExactFormatFeaturesCard : Claim7 := { stood := { row := fnExactFormatFeaturesRow, standIns := [], harness := (true, "ea96b53171e8842f531359e80754bf6f7571aaaa2054576af4f25b8fcf6563b9"), looks := true }, kinds := [], alts := [], laidByText := true, laidKinds := [.data, .data, .data, .widerDeep], laidTests := true, laidLooks := .later }
def FnExactFormatFeaturesCardSaid : Prop := Claim7.holds Tryd.pinned (.plain (OpenSpec.ofChange fnExactFormatFeaturesSpec)) fnExactFormatFeaturesCard

/-- THE TIED CARD OF 'laws.FnExactFormatDiagram'. -/
def fnExactFormatDiagramCard : Claim7 := { stood := { row := fnExactFormatDiagramRow, standIns := [], harness := (true, "ea96b53171e8842f531359e80754bf6f7571aaaa2054576af4f25b8fcf6563b9"), looks := true }, kinds := [], alts := [], laidByText := true, laidKinds := [.data, .data, .data, .widerDeep], laidTests := true, laidLooks := .later }
def FnExactFormatDiagramCardSaid : Prop := Claim7.holds Tryd.pinned (.plain (OpenSpec.ofChange fnExactFormatDiagramSpec)) fnExactFormatDiagramCard

/-- THE TIED CARD OF 'laws.FnExactFormatRules'. -/
def fnExactFormatRulesCard : Claim7 := { stood := { row := fnExactFormatRulesRow, standIns := [], harness := (true, "ea96b53171e8842f531359e80754bf6f7571aaaa2054576af4f25b8fcf6563b9"), looks := true }, kinds := [], alts := [], laidByText := true, laidKinds := [.data, .data, .data, .widerDeep], laidTests := true, laidLooks := .later }
def FnExactFormatRulesCardSaid : Prop := Claim7.holds Tryd.pinned (.plain (OpenSpec.ofChange fnExactFormatRulesSpec)) fnExactFormatRulesCard

/-- THE TIED CARD OF 'laws.FnExactParseFeatures'. -/
def fnExactParseFeaturesCard : Claim7 := { stood := { row := fnExactParseFeaturesRow, standIns := [], harness := (true, "ea96b53171e8842f531359e80754bf6f7571aaaa2054576af4f25b8fcf6563b9"), looks := true }, kinds := [], alts := [], laidByText := true, laidKinds := [.data, .data, .data, .data, .sentinel, .sentinel, .widerDeep, .pinned], laidTests := true, laidLooks := .later }
def FnExactParseFeaturesCardSaid : Prop := Claim7.holds Tryd.pinned (.plain (OpenSpec.ofChange fnExactParseFeaturesSpec)) fnExactParseFeaturesCard

/-- THE TIED CARD OF 'laws.FnExactParseRules'. -/
def fnExactParseRulesCard : Claim7 := { stood := { row := fnExactParseRulesRow, standIns := [], harness := (true, "ea96b53171e8842f531359e80754bf6f7571aaaa2054576af4f25b8fcf6563b9"), looks := true }, kinds := [], alts := [], laidByText := true, laidKinds := [.data, .data, .data, .data, .sentinel, .sentinel, .widerDeep, .pinned], laidTests := true, laidLooks := .later }
def FnExactParseRulesCardSaid : Prop := Claim7.holds Tryd.pinned (.plain (OpenSpec.ofChange fnExactParseRulesSpec)) fnExactParseRulesCard

/-- THE SECOND FORM's CARD OF 'laws.FnExactFormatFeatures'. -/
def fnExactFormatFeaturesUptoCard : Claim7 := { stood := { row := fnExactFormatFeaturesUptoRow, standIns := [], harness := (true, "ea96b53171e8842f531359e80754bf6f7571aaaa2054576af4f25b8fcf6563b9"), looks := true }, kinds := [], alts := [], laidByText := true, laidKinds := [.data, .data, .data, .widerDeep], laidTests := true, laidLooks := .later }
def FnExactFormatFeaturesUptoCardSaid : Prop := Claim7.holds Tryd.pinned (.plain (OpenSpec.upto fnExactFormatFeaturesSpec)) fnExactFormatFeaturesUptoCard

/-- THE SECOND FORM's CARD OF 'laws.FnExactFormatDiagram'. -/
def fnExactFormatDiagramUptoCard : Claim7 := { stood := { row := fnExactFormatDiagramUptoRow, standIns := [], harness := (true, "ea96b53171e8842f531359e80754bf6f7571aaaa2054576af4f25b8fcf6563b9"), looks := true }, kinds := [], alts := [], laidByText := true, laidKinds := [.data, .data, .data, .widerDeep], laidTests := true, laidLooks := .later }
def FnExactFormatDiagramUptoCardSaid : Prop := Claim7.holds Tryd.pinned (.plain (OpenSpec.upto fnExactFormatDiagramSpec)) fnExactFormatDiagramUptoCard

/-- THE SECOND FORM's CARD OF 'laws.FnExactFormatRules'. -/
def fnExactFormatRulesUptoCard : Claim7 := { stood := { row := fnExactFormatRulesUptoRow, standIns := [], harness := (true, "ea96b53171e8842f531359e80754bf6f7571aaaa2054576af4f25b8fcf6563b9"), looks := true }, kinds := [], alts := [], laidByText := true, laidKinds := [.data, .data, .data, .widerDeep], laidTests := true, laidLooks := .later }
def FnExactFormatRulesUptoCardSaid : Prop := Claim7.holds Tryd.pinned (.plain (OpenSpec.upto fnExactFormatRulesSpec)) fnExactFormatRulesUptoCard

/-- THE SECOND FORM's CARD OF 'laws.FnExactParseFeatures'. -/
def fnExactParseFeaturesUptoCard : Claim7 := { stood := { row := fnExactParseFeaturesUptoRow, standIns := [], harness := (true, "ea96b53171e8842f531359e80754bf6f7571aaaa2054576af4f25b8fcf6563b9"), looks := true }, kinds := [], alts := [], laidByText := true, laidKinds := [.data, .data, .data, .data, .sentinel, .sentinel, .widerDeep, .pinned], laidTests := true, laidLooks := .later }
def FnExactParseFeaturesUptoCardSaid : Prop := Claim7.holds Tryd.pinned (.plain (OpenSpec.upto fnExactParseFeaturesSpec)) fnExactParseFeaturesUptoCard

/-- THE SECOND FORM's CARD OF 'laws.FnExactParseRules'. -/
def fnExactParseRulesUptoCard : Claim7 := { stood := { row := fnExactParseRulesUptoRow, standIns := [], harness := (true, "ea96b53171e8842f531359e80754bf6f7571aaaa2054576af4f25b8fcf6563b9"), looks := true }, kinds := [], alts := [], laidByText := true, laidKinds := [.data, .data, .data, .data, .sentinel, .sentinel, .widerDeep, .pinned], laidTests := true, laidLooks := .later }
def FnExactParseRulesUptoCardSaid : Prop := Claim7.holds Tryd.pinned (.plain (OpenSpec.upto fnExactParseRulesSpec)) fnExactParseRulesUptoCard
end Rows
end Go.Proofs.YtjdnomcpepbdaaaDoor
