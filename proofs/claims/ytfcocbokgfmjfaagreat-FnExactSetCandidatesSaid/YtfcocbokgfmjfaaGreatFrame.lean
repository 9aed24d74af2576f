/- Two closed facts on the program that every law's frame takes. -/
import Derived.Test.YtfcocbokgfmjfaaGreatRows
import Derived.Test.YtfcocbokgfmjfaaGreatRep
import Derived.ChangeOld
import Derived.Carry
namespace Go.Proofs.YtfcocbokgfmjfaaGreat
theorem own : ownKnob Tryz.prog.godebug = none := by kernel_rfl
theorem laidOut : laidOutB Tryz.prog = true := by kernel_rfl
end Go.Proofs.YtfcocbokgfmjfaaGreat
