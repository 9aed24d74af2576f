/- Printed by genh.py: the laws' own helpers computed. No program in sight. No statement of the seat is proved here. -/
import Derived.Test.YtmkgocdgkdglnaaAz
import Derived.Test.YtmkgocdgkdglnaaPc
import Derived.Test.YtmkgocdgkdglnaaBr
namespace Go.Proofs.Ytmkgocdgkdglnaa
open Go.RowKit
set_option linter.unusedVariables false
set_option linter.unusedSimpArgs false

def w_Test (x : (Int) × (Int) × (Bool)) : Nat := 0
def w_TestS (x : List ((Int) × (Int) × (Bool))) : Nat := wL w_Test x
def w_Rule (x : (List ((Int) × (Int) × (Bool)))) : Nat := w_TestS x
def w_RuleS (x : List ((List ((Int) × (Int) × (Bool))))) : Nat := wL w_Rule x
def w_RuleSet (x : (List ((List ((Int) × (Int) × (Bool)))))) : Nat := w_RuleS x
theorem wL_flat {α : Type} {f : α → Nat} (h : ∀ x, f x = 0) (xs : List α) : wL f xs = xs.length := by
  unfold wL
  have : (xs.map f).sum = 0 := by
    induction xs with
    | nil => rfl
    | cons x xs ih => simp [h, ih]
  omega
theorem sz_TestS {fu : Nat} {x : List ((Int) × (Int) × (Bool))} {n : Int} (hb : (qS (qP qI (qP qI qT))) x) (h0 : 0 ≤ n) (h1 : n ≤ 1048576) (hf : 1048577 ≤ fu) : M_laws_szTestS fu x n = some (szR n (w_TestS x)) := by
  unfold M_laws_szTestS w_TestS
  rw [wL_flat (f := w_Test) (fun _ => rfl)]
  have hl := hb.1
  unfold maxLen at hl
  rw [ck_t (i64B_t (by omega) (by omega))]
  unfold szR
  by_cases h : (x.length : Int) ≤ n
  · rw [decide_eq_false (by omega), cond_false, if_pos h]
  · rw [decide_eq_true (by omega), cond_true, if_neg h]
theorem sz_Rule {fu : Nat} {x : (List ((Int) × (Int) × (Bool)))} {n : Int} (hb : (qS (qP qI (qP qI qT))) x) (h0 : 0 ≤ n) (h1 : n ≤ 1048576) (hf : 1048577 ≤ fu) : M_laws_szRule fu x n = some (szR n (w_Rule x)) := by
  unfold M_laws_szRule w_Rule
  rw [sz_TestS hb (by omega) (by omega) hf, cl_true]
  by_cases g0 : ¬ (w_TestS x : Int) ≤ n
  · rw [szR_ge g0, cond_true]
    unfold szR
    rw [if_neg (by omega)]
  replace g0 := Classical.not_not.1 g0
  rw [szR_lt g0, cond_false, szR_v g0]

theorem sz_RuleS {fu : Nat} {x : List ((List ((Int) × (Int) × (Bool))))} {n : Int} (hb : (qS (qS (qP qI (qP qI qT)))) x) (h0 : 0 ≤ n) (h1 : n ≤ 1048576) (hf : 1048577 ≤ fu) : M_laws_szRuleS fu x n = some (szR n (w_RuleS x)) := by
  unfold M_laws_szRuleS w_RuleS
  refine sz_list h0 h1 hb.1 hf (L := M_laws_szRuleS_L0 fu x) (fun k y i z hl hz hy hy1 => ?_) (fun k y => by rw [M_laws_szRuleS_L0, lt_f]; rfl)
  have hi := at_lt hz
  have hq := hb.2 z (at_mem hz)
  rw [M_laws_szRuleS_L0, lt_t hi, cond_true, ck_t (inR_t hi), gtD_get hz, sz_Rule hq hy hy1 hf, cl_true]
  by_cases h : (w_Rule z : Int) ≤ y
  · rw [szR_lt h, cond_false, cond_false, ck_t (i64B_n (by omega)), succ_i]
  · rw [szR_ge h, cond_true, cond_true]
theorem sz_RuleSet {fu : Nat} {x : (List ((List ((Int) × (Int) × (Bool)))))} {n : Int} (hb : (qS (qS (qP qI (qP qI qT)))) x) (h0 : 0 ≤ n) (h1 : n ≤ 1048576) (hf : 1048577 ≤ fu) : M_laws_szRuleSet fu x n = some (szR n (w_RuleSet x)) := by
  unfold M_laws_szRuleSet w_RuleSet
  rw [sz_RuleS hb (by omega) (by omega) hf, cl_true]
  by_cases g0 : ¬ (w_RuleS x : Int) ≤ n
  · rw [szR_ge g0, cond_true]
    unfold szR
    rw [if_neg (by omega)]
  replace g0 := Classical.not_not.1 g0
  rw [szR_lt g0, cond_false, szR_v g0]

theorem to_Test {fu : Nat} {x : (Int) × (Int) × (Bool)} (hw : w_Test x ≤ 1048576) (hf : 1048577 ≤ fu) : M_laws_toTest fu x = some x := by
  unfold w_Test at hw
  unfold M_laws_toTest
  rfl
theorem to_TestS {fu : Nat} {x : List ((Int) × (Int) × (Bool))} (hw : w_TestS x ≤ 1048576) (hf : 1048577 ≤ fu) : M_laws_toTestS fu x = some x := by
  have hw' := hw
  unfold w_TestS wL at hw'
  unfold M_laws_toTestS
  refine to_list (by omega) hf (L := M_laws_toTestS_L0 fu x) (fun k i ys z hi hl hz => ?_) (fun k ys => by rw [M_laws_toTestS_L0, lt_f]; rfl)
  have hm := sz_mem (f := w_Test) (at_mem hz)
  rw [M_laws_toTestS_L0, lt_t hi, cond_true, ck_t (inR_t hi), gtD_get hz, to_Test (by omega) hf, cl_true, ck_t (inR_t (by omega)), ck_t (i64B_n (by omega)), set_nat, succ_i]
theorem to_Rule {fu : Nat} {x : (List ((Int) × (Int) × (Bool)))} (hw : w_Rule x ≤ 1048576) (hf : 1048577 ≤ fu) : M_laws_toRule fu x = some x := by
  unfold w_Rule at hw
  unfold M_laws_toRule
  rw [to_TestS (by omega) hf, cl_true]
theorem to_RuleS {fu : Nat} {x : List ((List ((Int) × (Int) × (Bool))))} (hw : w_RuleS x ≤ 1048576) (hf : 1048577 ≤ fu) : M_laws_toRuleS fu x = some x := by
  have hw' := hw
  unfold w_RuleS wL at hw'
  unfold M_laws_toRuleS
  refine to_list (by omega) hf (L := M_laws_toRuleS_L0 fu x) (fun k i ys z hi hl hz => ?_) (fun k ys => by rw [M_laws_toRuleS_L0, lt_f]; rfl)
  have hm := sz_mem (f := w_Rule) (at_mem hz)
  rw [M_laws_toRuleS_L0, lt_t hi, cond_true, ck_t (inR_t hi), gtD_get hz, to_Rule (by omega) hf, cl_true, ck_t (inR_t (by omega)), ck_t (i64B_n (by omega)), set_nat, succ_i]
theorem to_RuleSet {fu : Nat} {x : (List ((List ((Int) × (Int) × (Bool)))))} (hw : w_RuleSet x ≤ 1048576) (hf : 1048577 ≤ fu) : M_laws_toRuleSet fu x = some x := by
  unfold w_RuleSet at hw
  unfold M_laws_toRuleSet
  rw [to_RuleS (by omega) hf, cl_true]
theorem eq_Test {fu : Nat} {x y : (Int) × (Int) × (Bool)} (hw : w_Test x ≤ 1048576) (hf : 1048577 ≤ fu) : M_laws_eqTest fu x y = some (x == y) := by
  obtain ⟨x0, x1, x2⟩ := x
  obtain ⟨y0, y1, y2⟩ := y
  unfold w_Test at hw
  try simp only [] at hw
  unfold M_laws_eqTest
  rw [show (((x0, x1, x2) : (Int) × (Int) × (Bool)) == (y0, y1, y2)) = ((x0 == y0) && ((x1 == y1) && (x2 == y2))) from rfl]
  simp only []
  try simp only [bne]
  cases h0 : (x0 == y0) <;> cases h1 : (x1 == y1) <;> cases h2 : (x2 == y2) <;> rfl
theorem eq_TestS {fu : Nat} {x y : List ((Int) × (Int) × (Bool))} (hw : w_TestS x ≤ 1048576) (hf : 1048577 ≤ fu) : M_laws_eqTestS fu x y = some (x == y) := by
  have hw' := hw
  unfold w_TestS wL at hw'
  unfold M_laws_eqTestS
  refine eq_list (by omega) (L := M_laws_eqTestS_L0 fu x y) (fun k i z z' hl hz hz' => ?_) (fun k => by rw [M_laws_eqTestS_L0, lt_f]; rfl)
  have hi := at_lt hz
  have hm := sz_mem (f := w_Test) (at_mem hz)
  rw [M_laws_eqTestS_L0, lt_t hi, cond_true, ck_t (inR_t hi), ck_t (inR_t (at_lt hz')), ck_t (i64B_n (by omega)), gtD_get hz, gtD_get hz', eq_Test (by omega) hf, cl_true, succ_i]
theorem eq_Rule {fu : Nat} {x y : (List ((Int) × (Int) × (Bool)))} (hw : w_Rule x ≤ 1048576) (hf : 1048577 ≤ fu) : M_laws_eqRule fu x y = some (x == y) := by
  obtain ⟨x0, hx0⟩ : ∃ z, z = x := ⟨_, rfl⟩
  obtain ⟨y0, hy0⟩ : ∃ z, z = y := ⟨_, rfl⟩
  subst hx0 hy0
  unfold w_Rule at hw
  unfold M_laws_eqRule
  rw [eq_TestS (by omega) hf, cl_true]
  try simp only [bne]
  cases h0 : (x0 == y0) <;> rfl
theorem eq_RuleS {fu : Nat} {x y : List ((List ((Int) × (Int) × (Bool))))} (hw : w_RuleS x ≤ 1048576) (hf : 1048577 ≤ fu) : M_laws_eqRuleS fu x y = some (x == y) := by
  have hw' := hw
  unfold w_RuleS wL at hw'
  unfold M_laws_eqRuleS
  refine eq_list (by omega) (L := M_laws_eqRuleS_L0 fu x y) (fun k i z z' hl hz hz' => ?_) (fun k => by rw [M_laws_eqRuleS_L0, lt_f]; rfl)
  have hi := at_lt hz
  have hm := sz_mem (f := w_Rule) (at_mem hz)
  rw [M_laws_eqRuleS_L0, lt_t hi, cond_true, ck_t (inR_t hi), ck_t (inR_t (at_lt hz')), ck_t (i64B_n (by omega)), gtD_get hz, gtD_get hz', eq_Rule (by omega) hf, cl_true, succ_i]
theorem eq_RuleSet {fu : Nat} {x y : (List ((List ((Int) × (Int) × (Bool)))))} (hw : w_RuleSet x ≤ 1048576) (hf : 1048577 ≤ fu) : M_laws_eqRuleSet fu x y = some (x == y) := by
  obtain ⟨x0, hx0⟩ : ∃ z, z = x := ⟨_, rfl⟩
  obtain ⟨y0, hy0⟩ : ∃ z, z = y := ⟨_, rfl⟩
  subst hx0 hy0
  unfold w_RuleSet at hw
  unfold M_laws_eqRuleSet
  rw [eq_RuleS (by omega) hf, cl_true]
  try simp only [bne]
  cases h0 : (x0 == y0) <;> rfl
theorem law_IsMonotone {fu : Nat} {a0 : (List ((List ((Int) × (Int) × (Bool)))))} (hf : 1048577 ≤ fu) (h0 : (qS (qS (qP qI (qP qI qT)))) a0)
    (hs : w_RuleSet a0 ≤ 1048576 → ∃ r : (Bool), M_spec_IsMonotone fu a0 = some r ∧ M_impl_IsMonotone fu a0 = some r) : M_laws_FnExactIsMonotone fu a0 = some true := by
  unfold M_laws_FnExactIsMonotone
  rw [sz_RuleSet h0 (by omega) (by omega) hf, cl_true]
  by_cases g0 : ¬ (w_RuleSet a0 : Int) ≤ 1048576
  · rw [szR_ge g0, cond_true]
  replace g0 := Classical.not_not.1 g0
  rw [szR_lt g0, cond_false]
  obtain ⟨r, e1, e2⟩ := hs (by omega)
  have t0 : M_laws_toRuleSet fu a0 = some a0 := to_RuleSet (by omega) hf
  have q0 : M_laws_eqRuleSet fu a0 a0 = some (a0 == a0) := eq_RuleSet (by omega) hf
  simp only [e1, e2, cl_true, bd_eq, beq_self_eq_true, bne_self_eq_false', Bool.not_true, Bool.not_false, cond_false, cond_true, Bool.true_and, Bool.and_true, Bool.false_or, Bool.or_false, Bool.true_or, Bool.false_and, t0, q0, show (false == false) = true from rfl, show (true == false) = false from rfl, show (false == true) = false from rfl]
end Go.Proofs.Ytmkgocdgkdglnaa
