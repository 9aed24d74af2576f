/- Plain: sets of tokens, program and reference alike. No statement of the seat is proved here. -/
import Derived.Test.YtmkgocdgkdglnaaAz
import Derived.Test.YtmkgocdgkdglnaaPd
namespace Go.Proofs.Ytmkgocdgkdglnaa
open Go.RowKit
set_option linter.unusedVariables false
set_option linter.unusedSimpArgs false

/-! the reference's way -/
end Go.Proofs.Ytmkgocdgkdglnaa
