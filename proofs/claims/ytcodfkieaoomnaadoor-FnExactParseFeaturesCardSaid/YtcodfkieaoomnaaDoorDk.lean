/- Whether the logic keeps that no draw is taken back: not here (strings.Join's contract does not say it). No statement of the seat is proved here. -/
import Derived.Test.YtcodfkieaoomnaaDoorBase
namespace Go.Proofs.YtcodfkieaoomnaaDoor
abbrev DK : Prop := False
end Go.Proofs.YtcodfkieaoomnaaDoor
