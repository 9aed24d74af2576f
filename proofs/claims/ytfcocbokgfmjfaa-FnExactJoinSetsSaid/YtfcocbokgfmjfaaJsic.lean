/- Plain: indexes that are short enough. No statement of the seat is proved here. -/
import Derived.Test.YtfcocbokgfmjfaaJmj
import Derived.Test.YtfcocbokgfmjfaaJh
namespace Go.Proofs.Ytfcocbokgfmjfaa
open Go.RowKit
set_option linter.unusedVariables false
set_option linter.unusedSimpArgs false

theorem w_len {α : Type} {f : α → Nat} {xs : List α} (h : wL f xs ≤ 1048576) : xs.length ≤ 1048576 ∧ ∀ x ∈ xs, f x ≤ 1048576 := by
  unfold wL at h
  exact ⟨by omega, fun x hx => Nat.le_trans (sz_mem hx) (by omega)⟩
theorem wL_zero {α : Type} {f : α → Nat} (h : ∀ x, f x = 0) (xs : List α) : wL f xs = xs.length := by
  unfold wL
  have : (xs.map f).sum = 0 := by
    induction xs with
    | nil => rfl
    | cons x xs ih => simp [h, ih]
  omega
abbrev TIdx := Int × List (List UInt8 × Int) × List (Int × List (List UInt8))
theorem idx_ok {x : TIdx} (h : w_SetIndex x ≤ 1048576) : IdxOK x := by
  unfold w_SetIndex w_TokenCountS w_IndexedSetS at h
  have k1 := w_len (xs := x.2.1) (f := w_TokenCount) (by omega)
  have k2 := w_len (xs := x.2.2) (f := w_IndexedSet) (by omega)
  refine ⟨k1.1, k2.1, fun s hs => ?_⟩
  have := k2.2 s hs
  unfold w_IndexedSet w_StringS at this
  have k3 := w_len (xs := s.2) (f := fun s => s.length) this
  exact k3
theorem foldl_app {α β : Type} {p : α → Bool} {f : α → β} : ∀ (xs : List α) (a : List β), xs.foldl (fun acc s => bif p s then acc ++ [f s] else acc) a = a ++ (xs.filter p).map f
  | [], a => by simp
  | x :: xs, a => by
    rw [List.foldl_cons, foldl_app xs, List.filter_cons]
    cases p x <;> simp
end Go.Proofs.Ytfcocbokgfmjfaa

