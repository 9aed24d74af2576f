/- A tree that goes behind a row of trees at a place of a variable. No statement of the seat is proved here. -/
import Derived.Test.YtmgiijdejigdhaaDp
import Derived.Test.YtmgiijdejigdhaaMp
namespace Go.Proofs.Ytmgiijdejigdhaa
open Go.RowKit
set_option linter.unusedVariables false

section
variable {P : Program} {R : Reg} {w : World} {p : String} {af : Array Edge} {g : Option (Nat × Bool)} {A : Av} {α : Type} {F : OE α} {x x' : Operand} {T e : TypeId} {K : Nat → Prop} {a v : Value}
end

/-! pointers to structs -/
section
variable {P : Program} {R : Reg} {w : World} {d : Option Nat} {t : TypeId} {p : String} {af : Array Edge} {g : Option (Nat × Bool)} {A : Av} {α : Type} {E : Enc α} {x : Operand} {u : Value}
end
end Go.Proofs.Ytmgiijdejigdhaa
