/- Whether the logic keeps that no draw is taken back. No statement of the seat is proved here. -/
import Derived.Test.YtmgiijdejigdhaaBase
namespace Go.Proofs.Ytmgiijdejigdhaa
abbrev DK : Prop := True
end Go.Proofs.Ytmgiijdejigdhaa
