/- Printed by genh.py: the laws' own helpers computed. No program in sight. No statement of the seat is proved here. -/
import Derived.Test.YtcodfkieaoomnaaDoorIz
import Derived.Test.YtcodfkieaoomnaaDoorPc
import Derived.Test.YtcodfkieaoomnaaDoorBr
namespace Go.Proofs.YtcodfkieaoomnaaDoor
open Go.RowKit
set_option linter.unusedVariables false
set_option linter.unusedSimpArgs false

def w_IntS (x : List (Int)) : Nat := wL (fun _ => 0) x
theorem eq_IntS {fu : Nat} {x y : List (Int)} (hw : w_IntS x ≤ 1048576) (hf : 1048577 ≤ fu) : M_laws_eqIntS fu x y = some (x == y) := by
  have hw' := hw
  unfold w_IntS wL at hw'
  unfold M_laws_eqIntS
  refine eq_list (by omega) (L := M_laws_eqIntS_L0 fu x y) (fun k i z z' hl hz hz' => ?_) (fun k => by rw [M_laws_eqIntS_L0, lt_f]; rfl)
  have hi := at_lt hz
  rw [M_laws_eqIntS_L0, lt_t hi, cond_true, ck_t (inR_t hi), ck_t (inR_t (at_lt hz')), ck_t (i64B_n (by omega)), gtD_get hz, gtD_get hz', succ_i]
  rfl
def fe_IntS (x : Int) (k : Int) : Int := k
def ce_IntS (x : Int) : Int := 1
theorem ce0_IntS (x : Int) : 0 ≤ ce_IntS x := by
  unfold ce_IntS
  omega
def f_IntS (x : List (Int)) (k : Int) : List (Int) := mkW fe_IntS ce_IntS x k
def c_IntS (x : List (Int)) : Int := cW ce_IntS x
theorem c0_IntS (x : List (Int)) : 0 ≤ c_IntS x := cW_nonneg ce0_IntS x
theorem cw_IntS (x : List (Int)) : c_IntS x ≤ 8 * (w_IntS x : Int) := by
  unfold c_IntS w_IntS
  refine cw_list (fun x => ?_) x
  unfold ce_IntS
  omega
theorem mark_IntS {fu : Nat} {x : List (Int)} {k : Int} (hw : w_IntS x ≤ 1048576) (hk : 0 < k) (h1 : k + c_IntS x ≤ 4294967296) (hf : 1048577 ≤ fu) : M_laws_markIntS fu x k = some (k + c_IntS x, f_IntS x k) := by
  have hw' := hw
  unfold w_IntS wL at hw'
  unfold M_laws_markIntS
  have hb : ∀ z ∈ x, (fun _ => 0) z ≤ 1048576 := fun z hz => Nat.le_trans (sz_mem (f := (fun _ => 0)) hz) (by omega)
  refine mark_list (f := fe_IntS) (c := ce_IntS) (Bd := (fun z : Int => (fun _ => 0) z ≤ 1048576)) (lim := 4294967296) (L := M_laws_markIntS_L0 fu) ce0_IntS (by omega) hk h1 hb (fun k y i ys z hi hl hz hy hyl hbz => ?_) (fun k y ys hl => by rw [M_laws_markIntS_L0, hl, lt_f]; rfl)
  have hil : i < ys.length := by omega
  unfold ce_IntS at hyl
  rw [M_laws_markIntS_L0, lt_t hil, cond_true, ck_t (inR_t hil), ck_t (i64B_t (by omega) (by omega)), ck_t (i64B_n (by omega)), set_nat, succ_i]
  rfl
theorem held_IntS {fu : Nat} {x z : List (Int)} {k : Int} (hz : z = f_IntS x k) (hw : w_IntS x ≤ 1048576) (hk : 0 < k) (h1 : k + c_IntS x ≤ 4294967296) (hf : 1048577 ≤ fu) : M_laws_heldIntS fu z k = some (k + c_IntS x) := by
  have hw' := hw
  unfold w_IntS wL at hw'
  unfold M_laws_heldIntS
  have hb : ∀ z ∈ x, (fun _ => 0) z ≤ 1048576 := fun z hz => Nat.le_trans (sz_mem (f := (fun _ => 0)) hz) (by omega)
  have hzl : z.length = x.length := by rw [hz]; exact mkW_length
  refine held_list (f := fe_IntS) (c := ce_IntS) (Bd := (fun z : Int => (fun _ => 0) z ≤ 1048576)) (lim := 4294967296) (L := M_laws_heldIntS_L0 fu z) hz ce0_IntS (by omega) hk h1 hb (fun k y i u hu hy hyl hbz => ?_) (fun k y => by rw [M_laws_heldIntS_L0, lt_f]; rfl)
  have hi := at_lt hu
  unfold ce_IntS at hyl
  rw [M_laws_heldIntS_L0, lt_t hi, cond_true, ck_t (inR_t hi), gtD_get hu, show (fe_IntS u y != y) = false from bne_self_eq_false' _, cond_false, ck_t (i64B_t (by omega) (by omega)), ck_t (i64B_n (by omega)), succ_i]
  rfl
theorem law_ParseFeatures {fu : Nat} {a0 : List UInt8} (hf : 1048577 ≤ fu) (h0 : qB a0)
    (hs : a0.length ≤ 1048576 → ∃ r : (List (Int)) × (Bool), M_spec_ParseFeatures fu a0 = some r ∧ M_impl_ParseFeatures fu a0 = some r ∧ w_IntS r.1 ≤ 1048576) : M_laws_FnExactParseFeatures fu a0 = some true := by
  unfold M_laws_FnExactParseFeatures
  by_cases s0 : ¬ a0.length ≤ 1048576
  · rw [show decide ((1048576 : Int) < (a0.length : Int)) = true from decide_eq_true (by omega), cond_true]
  replace s0 := Classical.not_not.1 s0
  rw [show decide ((1048576 : Int) < (a0.length : Int)) = false from decide_eq_false (by omega), cond_false]
  obtain ⟨r, e1, e2, v0⟩ := hs s0
  have p0 : M_laws_eqIntS fu r.1 r.1 = some (r.1 == r.1) := eq_IntS (by omega) hf
  have cr0 := c0_IntS r.1
  have dr0 := cw_IntS r.1
  have mr0 : M_laws_markIntS fu r.1 (1) = some (1 + c_IntS r.1, f_IntS r.1 (1)) := mark_IntS (by omega) (by omega) (by omega) hf
  have hr0 : M_laws_heldIntS fu (f_IntS r.1 (1)) (1) = some (1 + c_IntS r.1) := held_IntS rfl (by omega) (by omega) (by omega) hf
  have kr0 : decide (1 + c_IntS r.1 < 0) = false := decide_eq_false (by omega)
  simp only [e1, e2, cl_true, bd_eq, beq_self_eq_true, bne_self_eq_false', Bool.not_true, Bool.not_false, cond_false, cond_true, Bool.true_and, Bool.and_true, Bool.false_or, Bool.or_false, Bool.true_or, Bool.false_and, p0, mr0, hr0, kr0, show (false == false) = true from rfl, show (true == false) = false from rfl, show (false == true) = false from rfl]
end Go.Proofs.YtcodfkieaoomnaaDoor
