/- Plain: indexes of sets, program and reference alike. No statement of the seat is proved here. -/
import Derived.Test.YtkebpojbbfnehaaGreatEts
namespace Go.Proofs.YtkebpojbbfnehaaGreat
open Go.RowKit
set_option linter.unusedVariables false
set_option linter.unusedSimpArgs false

def tabX (x : List UInt8 × Int) : Bool := decide (x.2 < 1)
def tabB (l : List (List UInt8 × Int)) : Bool := !(adjAny tabX (fun p x => tabX x || !(bLt p.1 x.1)) l)
def inI (x lo hi : Int) : Bool := decide (lo ≤ x) && decide (x ≤ hi)
theorem l1In_t {fu : Nat} {x lo hi : Int} : M_spec_l1In fu x lo hi = some (inI x lo hi) := rfl
def setX (s : Int × List (List UInt8)) : Bool := !(inI s.1 0 999) || !(tokB s.2)
def setsB (l : List (Int × List (List UInt8))) : Bool := !(adjAny setX (fun p x => setX x || decide (x.1 ≤ p.1)) l)
def idxB (x : Int × List (List UInt8 × Int) × List (Int × List (List UInt8))) : Bool := (tabB x.2.1 && inI x.1 1 1000) && (decide (x.2.2.length ≤ 12) && setsB x.2.2)
/-- the index is short enough to be looked at -/
def IdxOK (x : Int × List (List UInt8 × Int) × List (Int × List (List UInt8))) : Prop := x.2.1.length ≤ 1048576 ∧ x.2.2.length ≤ 1048576 ∧ ∀ s ∈ x.2.2, s.2.length ≤ 1048576 ∧ ∀ t ∈ s.2, t.length ≤ 1048576
theorem dec_len {n : Nat} : decide ((n : Int) ≤ 12) = decide (n ≤ 12) := by
  by_cases h : n ≤ 12
  · rw [decide_eq_true h, decide_eq_true (by omega)]
  · rw [decide_eq_false h, decide_eq_false (by omega)]
theorem dec_len' {n : Nat} : decide ((12 : Int) < (n : Int)) = !(decide (n ≤ 12)) := by
  by_cases h : n ≤ 12
  · rw [decide_eq_true h, decide_eq_false (by omega)]; rfl
  · rw [decide_eq_false h, decide_eq_true (by omega)]; rfl
end Go.Proofs.YtkebpojbbfnehaaGreat

