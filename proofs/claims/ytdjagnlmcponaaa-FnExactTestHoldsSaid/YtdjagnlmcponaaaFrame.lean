/- Two closed facts on the program that every law's frame takes. -/
import Derived.Test.YtdjagnlmcponaaaRows
import Derived.Test.YtdjagnlmcponaaaRep
import Derived.ChangeOld
import Derived.Carry
namespace Go.Proofs.Ytdjagnlmcponaaa
theorem own : ownKnob Try.prog.godebug = none := by kernel_rfl
theorem laidOut : laidOutB Try.prog = true := by kernel_rfl
end Go.Proofs.Ytdjagnlmcponaaa
