/- Printed by genh.py: the laws' own helpers computed. No program in sight. No statement of the seat is proved here. -/
import Derived.Test.YtkebpojbbfnehaaGreatEz
import Derived.Test.YtkebpojbbfnehaaGreatPc
import Derived.Test.YtkebpojbbfnehaaGreatBr
namespace Go.Proofs.YtkebpojbbfnehaaGreat
open Go.RowKit
set_option linter.unusedVariables false
set_option linter.unusedSimpArgs false


end Go.Proofs.YtkebpojbbfnehaaGreat
