/- Printed by genh.py: the laws' own helpers computed. No program in sight. No statement of the seat is proved here. -/
import Derived.Test.YtofiipblinonoaaOz
import Derived.Test.YtofiipblinonoaaPc
import Derived.Test.YtofiipblinonoaaBr
namespace Go.Proofs.Ytofiipblinonoaa
open Go.RowKit
set_option linter.unusedVariables false
set_option linter.unusedSimpArgs false


end Go.Proofs.Ytofiipblinonoaa
