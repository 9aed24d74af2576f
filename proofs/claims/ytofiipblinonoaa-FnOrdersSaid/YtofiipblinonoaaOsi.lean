/- Plain: indexes of sets, program and reference alike. No statement of the seat is proved here. -/
import Derived.Test.YtofiipblinonoaaOts
namespace Go.Proofs.Ytofiipblinonoaa
open Go.RowKit
set_option linter.unusedVariables false
set_option linter.unusedSimpArgs false

def tabX (x : List UInt8 × Int) : Bool := decide (x.2 < 1)
def tabB (l : List (List UInt8 × Int)) : Bool := !(adjAny tabX (fun p x => tabX x || !(bLt p.1 x.1)) l)
theorem implTab_t {fu : Nat} {l : List (List UInt8 × Int)} (hf : 1048577 ≤ fu) (hl : l.length ≤ 1048576) : M_impl_IsTokenTable fu l = some (tabB l) := by
  unfold M_impl_IsTokenTable
  have h := loop_adj (xs := l) (b0 := tabX) (b := fun p x => tabX x || !(bLt p.1 x.1)) (r := false) (L := M_impl_IsTokenTable_L0 fu l) (fun k x hx => by
    have hi := at_lt hx
    rw [M_impl_IsTokenTable_L0, lt_0 hi, cond_true]
    simp only [inR_0 hi, gtD_0 hx, one_i, i64B_1, no_00, bd_eq, tabX]
    cases decide (x.2 < 1) <;> rfl) (fun k i q x hq hx => by
    have hi := at_lt hx
    have hi' := at_lt hq
    rw [M_impl_IsTokenTable_L0, lt_t hi, cond_true]
    simp only [inR_t hi, inR_t hi', gtD_get hx, pred_i, gtD_get hq, pos_i, bd_eq, i64B_i i (by omega), Bool.or_true, ck_tt, i64B_c (show i + 1 ≤ 4294967296 by omega), succ_i, tabX]
    cases decide (x.2 < 1) <;> cases bLt q.1 x.1 <;> rfl) (fun k => by rw [M_impl_IsTokenTable_L0, lt_f]; rfl) (show l.length < fu by omega)
  rw [h, cl_true]
  unfold tabB
  cases adjAny tabX (fun p x => tabX x || !(bLt p.1 x.1)) l <;> rfl
def inI (x lo hi : Int) : Bool := decide (lo ≤ x) && decide (x ≤ hi)
def setX (s : Int × List (List UInt8)) : Bool := !(inI s.1 0 999) || !(tokB s.2)
def setsB (l : List (Int × List (List UInt8))) : Bool := !(adjAny setX (fun p x => setX x || decide (x.1 ≤ p.1)) l)
def idxB (x : Int × List (List UInt8 × Int) × List (Int × List (List UInt8))) : Bool := (tabB x.2.1 && inI x.1 1 1000) && (decide (x.2.2.length ≤ 12) && setsB x.2.2)
/-- the index is short enough to be looked at -/
def IdxOK (x : Int × List (List UInt8 × Int) × List (Int × List (List UInt8))) : Prop := x.2.1.length ≤ 1048576 ∧ x.2.2.length ≤ 1048576 ∧ ∀ s ∈ x.2.2, s.2.length ≤ 1048576 ∧ ∀ t ∈ s.2, t.length ≤ 1048576
theorem dec_len {n : Nat} : decide ((n : Int) ≤ 12) = decide (n ≤ 12) := by
  by_cases h : n ≤ 12
  · rw [decide_eq_true h, decide_eq_true (by omega)]
  · rw [decide_eq_false h, decide_eq_false (by omega)]
theorem dec_len' {n : Nat} : decide ((12 : Int) < (n : Int)) = !(decide (n ≤ 12)) := by
  by_cases h : n ≤ 12
  · rw [decide_eq_true h, decide_eq_false (by omega)]; rfl
  · rw [decide_eq_false h, decide_eq_true (by omega)]; rfl
end Go.Proofs.Ytofiipblinonoaa

