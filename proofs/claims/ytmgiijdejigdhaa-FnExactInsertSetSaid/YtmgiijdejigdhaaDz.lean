/- Struct literals for printed proofs. No statement of the seat is proved here. -/
import Derived.Test.YtmgiijdejigdhaaDy
namespace Go.Proofs.Ytmgiijdejigdhaa
open Go.RowKit
set_option linter.unusedVariables false
section
variable {P : Program} {R : Reg} {A : Av} {w : World} {d : Option Nat} {t : TypeId} {p : String} {af : Array Edge} {g : Option (Nat × Bool)} {α : Type} {E : Enc α} {x : α}
theorem of_build_raw {T : TypeId} {parts : Array (Nat × Operand)} {v : Value} (h : (execOp (evalR R) ⟨d, .build T parts, t, p, af, g⟩).run P w = .ok (.value v) w) (hr : Rep E A w v x) : OpF P ⟨d, .build T parts, t, p, af, g⟩ R w (.rep E A x) :=
  opr_val (w' := w) h ⟨hr, Fr.refl _⟩
theorem of_conv_int {S D : TypeId} {y : Operand} {k k' : IntKind} {a : Int} (hx : evalR R y = .int k a) (hs : P.underlying S = some (.int k)) (hd : P.underlying D = some (.int k')) : OpF P ⟨d, .convert S D y, t, p, af, g⟩ R w (.raw (.int k' (k'.wrap a))) :=
  opr_val (w' := w) (by simp [execOp, convert, hx, hs, hd, underlying, go_sem]) ⟨rfl, Fr.refl _⟩
theorem of_shr {T T' : TypeId} {y z : Operand} {k k' : IntKind} {a b : Int} (hx : evalR R y = .int k a) (hy : evalR R z = .int k' b) (h0 : decide (0 ≤ b) = true) : OpF P ⟨d, .binOp .shr T y z T', t, p, af, g⟩ R w (.raw (.int k (a / 2 ^ min b.toNat k.bits))) := by
  have h0 := of_decide_eq_true h0
  exact opr_val (w' := w) (by simp [execOp, hx, hy, go_sem, h0]) ⟨rfl, Fr.refl _⟩
end
end Go.Proofs.Ytmgiijdejigdhaa
