/- Whether the logic keeps that no draw is taken back. No statement of the seat is proved here. -/
import Derived.Test.YtmkgocdgkdglnaaBase
namespace Go.Proofs.Ytmkgocdgkdglnaa
abbrev DK : Prop := True
end Go.Proofs.Ytmkgocdgkdglnaa
