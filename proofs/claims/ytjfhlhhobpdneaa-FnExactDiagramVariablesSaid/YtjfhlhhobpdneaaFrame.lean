/- Two closed facts on the program that every law's frame takes. -/
import Derived.Test.YtjfhlhhobpdneaaRows
import Derived.Test.YtjfhlhhobpdneaaRep
import Derived.ChangeOld
import Derived.Carry
namespace Go.Proofs.Ytjfhlhhobpdneaa
theorem own : ownKnob Try.prog.godebug = none := by kernel_rfl
theorem laidOut : laidOutB Try.prog = true := by kernel_rfl
end Go.Proofs.Ytjfhlhhobpdneaa
