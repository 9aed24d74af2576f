/- Two closed facts on the program that every law's frame takes. -/
import Derived.Test.YtkebpojbbfnehaaGreatRows
import Derived.Test.YtkebpojbbfnehaaGreatRep
import Derived.ChangeOld
import Derived.Carry
namespace Go.Proofs.YtkebpojbbfnehaaGreat
theorem own : ownKnob Tryz.prog.godebug = none := by kernel_rfl
theorem laidOut : laidOutB Tryz.prog = true := by kernel_rfl
end Go.Proofs.YtkebpojbbfnehaaGreat
