/- Whether the logic keeps that no draw is taken back. No statement of the seat is proved here. -/
import Derived.Test.YtkebpojbbfnehaaGreatBase
namespace Go.Proofs.YtkebpojbbfnehaaGreat
abbrev DK : Prop := True
end Go.Proofs.YtkebpojbbfnehaaGreat
