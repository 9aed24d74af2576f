/- Plain: tables of tokens, prefixes, orders; program and reference alike. No statement of the seat is proved here. -/
import Derived.Test.YtmkgocdgkdglnaaAts
import Derived.Test.YtmkgocdgkdglnaaAst
namespace Go.Proofs.Ytmkgocdgkdglnaa
open Go.RowKit
set_option linter.unusedVariables false
set_option linter.unusedSimpArgs false

/-! ### the order of tokens -/
/-! ### lengths of prefixes -/
/-! ### prefixes of sets -/
end Go.Proofs.Ytmkgocdgkdglnaa
