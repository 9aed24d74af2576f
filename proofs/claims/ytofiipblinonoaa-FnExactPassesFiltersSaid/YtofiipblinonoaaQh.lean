/- Printed by genh.py: the laws' own helpers computed. No program in sight. No statement of the seat is proved here. -/
import Derived.Test.YtofiipblinonoaaQz
import Derived.Test.YtofiipblinonoaaPc
import Derived.Test.YtofiipblinonoaaBr
namespace Go.Proofs.Ytofiipblinonoaa
open Go.RowKit
set_option linter.unusedVariables false
set_option linter.unusedSimpArgs false

theorem law_GramFilter {fu : Nat} {a0 : List UInt8} {a1 : List UInt8} {a2 : Int} {a3 : Int} (hf : 1048577 ≤ fu) (h0 : qB a0) (h1 : qB a1) (h2 : qI a2) (h3 : qI a3)
    (hs : a0.length ≤ 1048576 → a1.length ≤ 1048576 → ∃ r : (Bool), M_spec_GramFilter fu a0 a1 a2 a3 = some r ∧ M_impl_GramFilter fu a0 a1 a2 a3 = some r) : M_laws_FnExactGramFilter fu a0 a1 a2 a3 = some true := by
  unfold M_laws_FnExactGramFilter
  by_cases s0 : ¬ a0.length ≤ 1048576
  · rw [show decide ((1048576 : Int) < (a0.length : Int)) = true from decide_eq_true (by omega), cond_true]
  replace s0 := Classical.not_not.1 s0
  rw [show decide ((1048576 : Int) < (a0.length : Int)) = false from decide_eq_false (by omega), cond_false]
  by_cases s1 : ¬ a1.length ≤ 1048576
  · rw [show decide ((1048576 : Int) < (a1.length : Int)) = true from decide_eq_true (by omega), cond_true]
  replace s1 := Classical.not_not.1 s1
  rw [show decide ((1048576 : Int) < (a1.length : Int)) = false from decide_eq_false (by omega), cond_false]
  obtain ⟨r, e1, e2⟩ := hs s0 s1
  simp only [e1, e2, cl_true, bd_eq, beq_self_eq_true, bne_self_eq_false', Bool.not_true, Bool.not_false, cond_false, cond_true, Bool.true_and, Bool.and_true, Bool.false_or, Bool.or_false, Bool.true_or, Bool.false_and, show (false == false) = true from rfl, show (true == false) = false from rfl, show (false == true) = false from rfl]
theorem law_PassesFilters {fu : Nat} {a0 : List UInt8} {a1 : List UInt8} {a2 : Int} (hf : 1048577 ≤ fu) (h0 : qB a0) (h1 : qB a1) (h2 : qI a2)
    (hs : a0.length ≤ 1048576 → a1.length ≤ 1048576 → ∃ r : (Bool), M_spec_PassesFilters fu a0 a1 a2 = some r ∧ M_impl_PassesFilters fu a0 a1 a2 = some r) : M_laws_FnExactPassesFilters fu a0 a1 a2 = some true := by
  unfold M_laws_FnExactPassesFilters
  by_cases s0 : ¬ a0.length ≤ 1048576
  · rw [show decide ((1048576 : Int) < (a0.length : Int)) = true from decide_eq_true (by omega), cond_true]
  replace s0 := Classical.not_not.1 s0
  rw [show decide ((1048576 : Int) < (a0.length : Int)) = false from decide_eq_false (by omega), cond_false]
  by_cases s1 : ¬ a1.length ≤ 1048576
  · rw [show decide ((1048576 : Int) < (a1.length : Int)) = true from decide_eq_true (by omega), cond_true]
  replace s1 := Classical.not_not.1 s1
  rw [show decide ((1048576 : Int) < (a1.length : Int)) = false from decide_eq_false (by omega), cond_false]
  obtain ⟨r, e1, e2⟩ := hs s0 s1
  simp only [e1, e2, cl_true, bd_eq, beq_self_eq_true, bne_self_eq_false', Bool.not_true, Bool.not_false, cond_false, cond_true, Bool.true_and, Bool.and_true, Bool.false_or, Bool.or_false, Bool.true_or, Bool.false_and, show (false == false) = true from rfl, show (true == false) = false from rfl, show (false == true) = false from rfl]
end Go.Proofs.Ytofiipblinonoaa
