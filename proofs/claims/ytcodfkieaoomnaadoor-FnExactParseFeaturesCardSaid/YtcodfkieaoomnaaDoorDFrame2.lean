/- Closed facts on the program that every frame of a law over the table takes. -/
import Derived.Test.YtcodfkieaoomnaaDoorCards
import Derived.Test.YtcodfkieaoomnaaDoorTie
import Derived.Test.YtcodfkieaoomnaaDoorGl
import Derived.ChangeOld
import Derived.Carry
import Derived.OpenVars
import Derived.Deep.DeepHandedRow
namespace Go.Proofs.YtcodfkieaoomnaaDoor
open Go.RowKit
theorem own : ownKnob Tryd.prog.godebug = none := by kernel_rfl
theorem laidOut : laidOutB Tryd.prog = true := by kernel_rfl
end Go.Proofs.YtcodfkieaoomnaaDoor
