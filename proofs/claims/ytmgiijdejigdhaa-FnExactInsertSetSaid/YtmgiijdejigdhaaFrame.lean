/- Two closed facts on the program that every law's frame takes. -/
import Derived.Test.YtmgiijdejigdhaaRows
import Derived.Test.YtmgiijdejigdhaaRep
import Derived.ChangeOld
import Derived.Carry
namespace Go.Proofs.Ytmgiijdejigdhaa
theorem own : ownKnob Try.prog.godebug = none := by kernel_rfl
theorem laidOut : laidOutB Try.prog = true := by kernel_rfl
end Go.Proofs.Ytmgiijdejigdhaa
