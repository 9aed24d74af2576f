/- Plain words for the laws' own helpers: sizes, copies, comparisons, marks. No program in sight. No statement of the seat is proved here. -/
import Derived.Test.YtofiipblinonoaaPa
namespace Go.Proofs.Ytofiipblinonoaa
open Go.RowKit
set_option linter.unusedVariables false

theorem lt_t {i n : Nat} (h : i < n) : decide ((i : Int) < (n : Int)) = true := by simpa using h
theorem lt_f (n : Nat) : decide ((n : Int) < (n : Int)) = false := decide_eq_false (Int.lt_irrefl _)
theorem i64B_n {i : Nat} (hn : i ≤ 4294967296) : i64B ((i : Int) + 1) = true := i64B_t (by omega) (by omega)
theorem at_lt {α : Type} {xs : List α} {i : Nat} {x : α} (h : xs[i]? = some x) : i < xs.length := (List.getElem?_eq_some_iff.1 h).1
theorem succ_i (i : Nat) : (i : Int) + 1 = ((i + 1 : Nat) : Int) := rfl
theorem set_nat {α : Type} (xs : List α) (i : Nat) (x : α) : xs.set ((i : Nat) : Int).toNat x = xs.set i x := by rw [Int.toNat_natCast]
/-! ### sizes -/
theorem drop_cons {α : Type} {xs : List α} {i : Nat} {x : α} (h : xs[i]? = some x) : xs.drop i = x :: xs.drop (i + 1) := by
  obtain ⟨h1, rfl⟩ := List.getElem?_eq_some_iff.1 h
  exact List.drop_eq_getElem_cons h1
/-! ### copies -/
/-! ### comparisons -/
/-! ### marks -/
end Go.Proofs.Ytofiipblinonoaa
