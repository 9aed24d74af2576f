/- Printed by genh.py: the laws' own helpers computed. No program in sight. No statement of the seat is proved here. -/
import Derived.Test.YtjdnomcpepbdaaaDoorUz
import Derived.Test.YtjdnomcpepbdaaaDoorPc
import Derived.Test.YtjdnomcpepbdaaaDoorBr
namespace Go.Proofs.YtjdnomcpepbdaaaDoor
open Go.RowKit
set_option linter.unusedVariables false
set_option linter.unusedSimpArgs false

theorem wL_flat {α : Type} {f : α → Nat} (h : ∀ x, f x = 0) (xs : List α) : wL f xs = xs.length := by
  unfold wL
  have : (xs.map f).sum = 0 := by
    induction xs with
    | nil => rfl
    | cons x xs ih => simp [h, ih]
  omega
def w_IntS (x : List (Int)) : Nat := wL (fun _ => 0) x
theorem to_IntS {fu : Nat} {x : List (Int)} (hw : w_IntS x ≤ 1048576) (hf : 1048577 ≤ fu) : M_laws_toIntS fu x = some x := by
  have hw' := hw
  unfold w_IntS wL at hw'
  unfold M_laws_toIntS
  refine to_list (by omega) hf (L := M_laws_toIntS_L0 fu x) (fun k i ys z hi hl hz => ?_) (fun k ys => by rw [M_laws_toIntS_L0, lt_f]; rfl)
  rw [M_laws_toIntS_L0, lt_t hi, cond_true, ck_t (inR_t hi), ck_t (inR_t (by omega)), ck_t (i64B_n (by omega)), gtD_get hz, set_nat, succ_i]
theorem eq_IntS {fu : Nat} {x y : List (Int)} (hw : w_IntS x ≤ 1048576) (hf : 1048577 ≤ fu) : M_laws_eqIntS fu x y = some (x == y) := by
  have hw' := hw
  unfold w_IntS wL at hw'
  unfold M_laws_eqIntS
  refine eq_list (by omega) (L := M_laws_eqIntS_L0 fu x y) (fun k i z z' hl hz hz' => ?_) (fun k => by rw [M_laws_eqIntS_L0, lt_f]; rfl)
  have hi := at_lt hz
  rw [M_laws_eqIntS_L0, lt_t hi, cond_true, ck_t (inR_t hi), ck_t (inR_t (at_lt hz')), ck_t (i64B_n (by omega)), gtD_get hz, gtD_get hz', succ_i]
  rfl
theorem law_FormatFeatures {fu : Nat} {a0 : List (Int)} (hf : 1048577 ≤ fu) (h0 : (qS qI) a0)
    (hs : a0.length ≤ 1048576 → ∃ r : (List UInt8), M_spec_FormatFeatures fu a0 = some r ∧ M_impl_FormatFeatures fu a0 = some r) : M_laws_FnExactFormatFeatures fu a0 = some true := by
  unfold M_laws_FnExactFormatFeatures
  by_cases s0 : ¬ a0.length ≤ 1048576
  · rw [show decide ((1048576 : Int) < (a0.length : Int)) = true from decide_eq_true (by omega), cond_true]
  replace s0 := Classical.not_not.1 s0
  rw [show decide ((1048576 : Int) < (a0.length : Int)) = false from decide_eq_false (by omega), cond_false]
  have w0 : w_IntS a0 ≤ 1048576 := by
    unfold w_IntS
    rw [wL_flat (fun _ => rfl)]
    exact s0
  obtain ⟨r, e1, e2⟩ := hs s0
  have t0 : M_laws_toIntS fu a0 = some a0 := to_IntS (by omega) hf
  have q0 : M_laws_eqIntS fu a0 a0 = some (a0 == a0) := eq_IntS (by omega) hf
  simp only [e1, e2, cl_true, bd_eq, beq_self_eq_true, bne_self_eq_false', Bool.not_true, Bool.not_false, cond_false, cond_true, Bool.true_and, Bool.and_true, Bool.false_or, Bool.or_false, Bool.true_or, Bool.false_and, t0, q0, show (false == false) = true from rfl, show (true == false) = false from rfl, show (false == true) = false from rfl]
end Go.Proofs.YtjdnomcpepbdaaaDoor
