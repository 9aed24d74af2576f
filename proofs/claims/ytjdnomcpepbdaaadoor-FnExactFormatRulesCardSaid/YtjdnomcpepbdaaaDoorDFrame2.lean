/- Closed facts on the program that every frame of a law over the table takes. -/
import Derived.Test.YtjdnomcpepbdaaaDoorCards
import Derived.Test.YtjdnomcpepbdaaaDoorTie
import Derived.Test.YtjdnomcpepbdaaaDoorGl
import Derived.ChangeOld
import Derived.Carry
import Derived.OpenVars
import Derived.Deep.DeepHandedRow
namespace Go.Proofs.YtjdnomcpepbdaaaDoor
open Go.RowKit
theorem own : ownKnob Tryd.prog.godebug = none := by kernel_rfl
theorem laidOut : laidOutB Tryd.prog = true := by kernel_rfl
end Go.Proofs.YtjdnomcpepbdaaaDoor
