/- Whether the logic keeps that no draw is taken back. No statement of the seat is proved here. -/
import Derived.Test.YtfcocbokgfmjfaaBase
namespace Go.Proofs.Ytfcocbokgfmjfaa
abbrev DK : Prop := True
end Go.Proofs.Ytfcocbokgfmjfaa
