/- Plain words: loops of the laws' own helpers, orders, sorted lists. No program in sight. No statement of the seat is proved here. -/
import Derived.Test.YtmgiijdejigdhaaPl
import Derived.Test.YtmgiijdejigdhaaDv
import Derived.Sort.Walk0
import Derived.Lib.Bytealg
namespace Go.Proofs.Ytmgiijdejigdhaa
open Go.RowKit
set_option linter.unusedVariables false

/-! ### loops -/
theorem lenOK_t {n : Nat} (h : n ≤ 4294967296) : lenOK n = true := Nat.ble_eq_true_of_le h
theorem mkOK_t {n : Nat} (h : n ≤ 1048577) : mkOK (n : Int) = true := by simp [mkOK]; omega
/-! ### the order of strings -/
/-! ### sorted lists -/
end Go.Proofs.Ytmgiijdejigdhaa
