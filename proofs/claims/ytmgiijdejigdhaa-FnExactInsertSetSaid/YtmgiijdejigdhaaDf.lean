/- Trees that become plain variables. No statement of the seat is proved here. -/
import Derived.Test.YtmgiijdejigdhaaDp
namespace Go.Proofs.Ytmgiijdejigdhaa
open Go.RowKit
set_option linter.unusedVariables false

section
variable {α : Type} {F : OE α} {A A0 : Av} {w : World} {S K : Nat → Prop}
end

/-! a variable whose row has gone into another row: its content is read; later it is filled anew -/
section
variable {α : Type} {F : OE α} {A A0 : Av} {w : World} {S K : Nat → Prop}
variable {P : Program} {R : Reg} {t : TypeId} {p : String} {af : Array Edge} {g : Option (Nat × Bool)} {x : Operand} {u : Value}
end

/-! a variable and its content, apart: the content goes elsewhere, the variable is filled anew -/
section
variable {α : Type} {F : OE α} {A A0 : Av} {w : World} {S K : Nat → Prop}
variable {P : Program} {R : Reg} {d : Option Nat} {t T : TypeId} {p : String} {af : Array Edge} {g : Option (Nat × Bool)} {x : Operand} {u v : Value}
end

/-! a plain pair in a tree, field by field -/
section
variable {α β : Type} {E : Enc α} {F : Enc β} {A : Av} {w : World} {S : Nat → Prop}
end
end Go.Proofs.Ytmgiijdejigdhaa
