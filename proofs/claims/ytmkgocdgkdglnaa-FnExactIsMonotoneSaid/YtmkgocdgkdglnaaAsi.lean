/- Plain: indexes of sets, program and reference alike. No statement of the seat is proved here. -/
import Derived.Test.YtmkgocdgkdglnaaAts
namespace Go.Proofs.Ytmkgocdgkdglnaa
open Go.RowKit
set_option linter.unusedVariables false
set_option linter.unusedSimpArgs false

def inI (x lo hi : Int) : Bool := decide (lo ≤ x) && decide (x ≤ hi)
theorem l1In_t {fu : Nat} {x lo hi : Int} : M_spec_l1In fu x lo hi = some (inI x lo hi) := rfl
end Go.Proofs.Ytmkgocdgkdglnaa
