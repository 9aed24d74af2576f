/- Struct literals for printed proofs. No statement of the seat is proved here. -/
import Derived.Test.YtmkgocdgkdglnaaDy
namespace Go.Proofs.Ytmkgocdgkdglnaa
open Go.RowKit
set_option linter.unusedVariables false
section
variable {P : Program} {R : Reg} {A : Av} {w : World} {d : Option Nat} {t : TypeId} {p : String} {af : Array Edge} {g : Option (Nat × Bool)} {α : Type} {E : Enc α} {x : α}
end
end Go.Proofs.Ytmkgocdgkdglnaa
