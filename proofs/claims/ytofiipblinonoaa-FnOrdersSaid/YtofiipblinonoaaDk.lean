/- Whether the logic keeps that no draw is taken back. No statement of the seat is proved here. -/
import Derived.Test.YtofiipblinonoaaBase
namespace Go.Proofs.Ytofiipblinonoaa
abbrev DK : Prop := True
end Go.Proofs.Ytofiipblinonoaa
