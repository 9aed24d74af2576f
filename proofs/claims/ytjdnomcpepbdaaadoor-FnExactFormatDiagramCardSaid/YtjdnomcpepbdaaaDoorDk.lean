/- Whether the logic keeps that no draw is taken back: not here (strings.Join's contract does not say it). No statement of the seat is proved here. -/
import Derived.Test.YtjdnomcpepbdaaaDoorBase
namespace Go.Proofs.YtjdnomcpepbdaaaDoor
abbrev DK : Prop := False
end Go.Proofs.YtjdnomcpepbdaaaDoor
