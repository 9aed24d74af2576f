/- Struct literals for printed proofs. No statement of the seat is proved here. -/
import Derived.Test.YtfcocbokgfmjfaaGreatDy
namespace Go.Proofs.YtfcocbokgfmjfaaGreat
open Go.RowKit
set_option linter.unusedVariables false
section
variable {P : Program} {R : Reg} {A : Av} {w : World} {d : Option Nat} {t : TypeId} {p : String} {af : Array Edge} {g : Option (Nat × Bool)} {α : Type} {E : Enc α} {x : α}
theorem of_conv_int {S D : TypeId} {y : Operand} {k k' : IntKind} {a : Int} (hx : evalR R y = .int k a) (hs : P.underlying S = some (.int k)) (hd : P.underlying D = some (.int k')) : OpF P ⟨d, .convert S D y, t, p, af, g⟩ R w (.raw (.int k' (k'.wrap a))) :=
  opr_val (w' := w) (by simp [execOp, convert, hx, hs, hd, underlying, go_sem]) ⟨rfl, Fr.refl _⟩
end
end Go.Proofs.YtfcocbokgfmjfaaGreat
