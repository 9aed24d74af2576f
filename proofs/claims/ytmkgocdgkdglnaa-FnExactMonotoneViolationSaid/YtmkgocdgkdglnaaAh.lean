/- Printed by genh.py: the laws' own helpers computed. No program in sight. No statement of the seat is proved here. -/
import Derived.Test.YtmkgocdgkdglnaaAz
import Derived.Test.YtmkgocdgkdglnaaPc
import Derived.Test.YtmkgocdgkdglnaaBr
namespace Go.Proofs.Ytmkgocdgkdglnaa
open Go.RowKit
set_option linter.unusedVariables false
set_option linter.unusedSimpArgs false

def w_Test (x : (Int) × (Int) × (Bool)) : Nat := 0
def w_TestS (x : List ((Int) × (Int) × (Bool))) : Nat := wL w_Test x
def w_Rule (x : (List ((Int) × (Int) × (Bool)))) : Nat := w_TestS x
def w_RuleS (x : List ((List ((Int) × (Int) × (Bool))))) : Nat := wL w_Rule x
def w_RuleSet (x : (List ((List ((Int) × (Int) × (Bool)))))) : Nat := w_RuleS x
theorem wL_flat {α : Type} {f : α → Nat} (h : ∀ x, f x = 0) (xs : List α) : wL f xs = xs.length := by
  unfold wL
  have : (xs.map f).sum = 0 := by
    induction xs with
    | nil => rfl
    | cons x xs ih => simp [h, ih]
  omega
theorem sz_TestS {fu : Nat} {x : List ((Int) × (Int) × (Bool))} {n : Int} (hb : (qS (qP qI (qP qI qT))) x) (h0 : 0 ≤ n) (h1 : n ≤ 1048576) (hf : 1048577 ≤ fu) : M_laws_szTestS fu x n = some (szR n (w_TestS x)) := by
  unfold M_laws_szTestS w_TestS
  rw [wL_flat (f := w_Test) (fun _ => rfl)]
  have hl := hb.1
  unfold maxLen at hl
  rw [ck_t (i64B_t (by omega) (by omega))]
  unfold szR
  by_cases h : (x.length : Int) ≤ n
  · rw [decide_eq_false (by omega), cond_false, if_pos h]
  · rw [decide_eq_true (by omega), cond_true, if_neg h]
theorem sz_Rule {fu : Nat} {x : (List ((Int) × (Int) × (Bool)))} {n : Int} (hb : (qS (qP qI (qP qI qT))) x) (h0 : 0 ≤ n) (h1 : n ≤ 1048576) (hf : 1048577 ≤ fu) : M_laws_szRule fu x n = some (szR n (w_Rule x)) := by
  unfold M_laws_szRule w_Rule
  rw [sz_TestS hb (by omega) (by omega) hf, cl_true]
  by_cases g0 : ¬ (w_TestS x : Int) ≤ n
  · rw [szR_ge g0, cond_true]
    unfold szR
    rw [if_neg (by omega)]
  replace g0 := Classical.not_not.1 g0
  rw [szR_lt g0, cond_false, szR_v g0]

theorem sz_RuleS {fu : Nat} {x : List ((List ((Int) × (Int) × (Bool))))} {n : Int} (hb : (qS (qS (qP qI (qP qI qT)))) x) (h0 : 0 ≤ n) (h1 : n ≤ 1048576) (hf : 1048577 ≤ fu) : M_laws_szRuleS fu x n = some (szR n (w_RuleS x)) := by
  unfold M_laws_szRuleS w_RuleS
  refine sz_list h0 h1 hb.1 hf (L := M_laws_szRuleS_L0 fu x) (fun k y i z hl hz hy hy1 => ?_) (fun k y => by rw [M_laws_szRuleS_L0, lt_f]; rfl)
  have hi := at_lt hz
  have hq := hb.2 z (at_mem hz)
  rw [M_laws_szRuleS_L0, lt_t hi, cond_true, ck_t (inR_t hi), gtD_get hz, sz_Rule hq hy hy1 hf, cl_true]
  by_cases h : (w_Rule z : Int) ≤ y
  · rw [szR_lt h, cond_false, cond_false, ck_t (i64B_n (by omega)), succ_i]
  · rw [szR_ge h, cond_true, cond_true]
theorem sz_RuleSet {fu : Nat} {x : (List ((List ((Int) × (Int) × (Bool)))))} {n : Int} (hb : (qS (qS (qP qI (qP qI qT)))) x) (h0 : 0 ≤ n) (h1 : n ≤ 1048576) (hf : 1048577 ≤ fu) : M_laws_szRuleSet fu x n = some (szR n (w_RuleSet x)) := by
  unfold M_laws_szRuleSet w_RuleSet
  rw [sz_RuleS hb (by omega) (by omega) hf, cl_true]
  by_cases g0 : ¬ (w_RuleS x : Int) ≤ n
  · rw [szR_ge g0, cond_true]
    unfold szR
    rw [if_neg (by omega)]
  replace g0 := Classical.not_not.1 g0
  rw [szR_lt g0, cond_false, szR_v g0]

theorem to_Test {fu : Nat} {x : (Int) × (Int) × (Bool)} (hw : w_Test x ≤ 1048576) (hf : 1048577 ≤ fu) : M_laws_toTest fu x = some x := by
  unfold w_Test at hw
  unfold M_laws_toTest
  rfl
theorem to_TestS {fu : Nat} {x : List ((Int) × (Int) × (Bool))} (hw : w_TestS x ≤ 1048576) (hf : 1048577 ≤ fu) : M_laws_toTestS fu x = some x := by
  have hw' := hw
  unfold w_TestS wL at hw'
  unfold M_laws_toTestS
  refine to_list (by omega) hf (L := M_laws_toTestS_L0 fu x) (fun k i ys z hi hl hz => ?_) (fun k ys => by rw [M_laws_toTestS_L0, lt_f]; rfl)
  have hm := sz_mem (f := w_Test) (at_mem hz)
  rw [M_laws_toTestS_L0, lt_t hi, cond_true, ck_t (inR_t hi), gtD_get hz, to_Test (by omega) hf, cl_true, ck_t (inR_t (by omega)), ck_t (i64B_n (by omega)), set_nat, succ_i]
theorem to_Rule {fu : Nat} {x : (List ((Int) × (Int) × (Bool)))} (hw : w_Rule x ≤ 1048576) (hf : 1048577 ≤ fu) : M_laws_toRule fu x = some x := by
  unfold w_Rule at hw
  unfold M_laws_toRule
  rw [to_TestS (by omega) hf, cl_true]
theorem to_RuleS {fu : Nat} {x : List ((List ((Int) × (Int) × (Bool))))} (hw : w_RuleS x ≤ 1048576) (hf : 1048577 ≤ fu) : M_laws_toRuleS fu x = some x := by
  have hw' := hw
  unfold w_RuleS wL at hw'
  unfold M_laws_toRuleS
  refine to_list (by omega) hf (L := M_laws_toRuleS_L0 fu x) (fun k i ys z hi hl hz => ?_) (fun k ys => by rw [M_laws_toRuleS_L0, lt_f]; rfl)
  have hm := sz_mem (f := w_Rule) (at_mem hz)
  rw [M_laws_toRuleS_L0, lt_t hi, cond_true, ck_t (inR_t hi), gtD_get hz, to_Rule (by omega) hf, cl_true, ck_t (inR_t (by omega)), ck_t (i64B_n (by omega)), set_nat, succ_i]
theorem to_RuleSet {fu : Nat} {x : (List ((List ((Int) × (Int) × (Bool)))))} (hw : w_RuleSet x ≤ 1048576) (hf : 1048577 ≤ fu) : M_laws_toRuleSet fu x = some x := by
  unfold w_RuleSet at hw
  unfold M_laws_toRuleSet
  rw [to_RuleS (by omega) hf, cl_true]
theorem eq_Test {fu : Nat} {x y : (Int) × (Int) × (Bool)} (hw : w_Test x ≤ 1048576) (hf : 1048577 ≤ fu) : M_laws_eqTest fu x y = some (x == y) := by
  obtain ⟨x0, x1, x2⟩ := x
  obtain ⟨y0, y1, y2⟩ := y
  unfold w_Test at hw
  try simp only [] at hw
  unfold M_laws_eqTest
  rw [show (((x0, x1, x2) : (Int) × (Int) × (Bool)) == (y0, y1, y2)) = ((x0 == y0) && ((x1 == y1) && (x2 == y2))) from rfl]
  simp only []
  try simp only [bne]
  cases h0 : (x0 == y0) <;> cases h1 : (x1 == y1) <;> cases h2 : (x2 == y2) <;> rfl
theorem eq_TestS {fu : Nat} {x y : List ((Int) × (Int) × (Bool))} (hw : w_TestS x ≤ 1048576) (hf : 1048577 ≤ fu) : M_laws_eqTestS fu x y = some (x == y) := by
  have hw' := hw
  unfold w_TestS wL at hw'
  unfold M_laws_eqTestS
  refine eq_list (by omega) (L := M_laws_eqTestS_L0 fu x y) (fun k i z z' hl hz hz' => ?_) (fun k => by rw [M_laws_eqTestS_L0, lt_f]; rfl)
  have hi := at_lt hz
  have hm := sz_mem (f := w_Test) (at_mem hz)
  rw [M_laws_eqTestS_L0, lt_t hi, cond_true, ck_t (inR_t hi), ck_t (inR_t (at_lt hz')), ck_t (i64B_n (by omega)), gtD_get hz, gtD_get hz', eq_Test (by omega) hf, cl_true, succ_i]
theorem eq_Rule {fu : Nat} {x y : (List ((Int) × (Int) × (Bool)))} (hw : w_Rule x ≤ 1048576) (hf : 1048577 ≤ fu) : M_laws_eqRule fu x y = some (x == y) := by
  obtain ⟨x0, hx0⟩ : ∃ z, z = x := ⟨_, rfl⟩
  obtain ⟨y0, hy0⟩ : ∃ z, z = y := ⟨_, rfl⟩
  subst hx0 hy0
  unfold w_Rule at hw
  unfold M_laws_eqRule
  rw [eq_TestS (by omega) hf, cl_true]
  try simp only [bne]
  cases h0 : (x0 == y0) <;> rfl
theorem eq_RuleS {fu : Nat} {x y : List ((List ((Int) × (Int) × (Bool))))} (hw : w_RuleS x ≤ 1048576) (hf : 1048577 ≤ fu) : M_laws_eqRuleS fu x y = some (x == y) := by
  have hw' := hw
  unfold w_RuleS wL at hw'
  unfold M_laws_eqRuleS
  refine eq_list (by omega) (L := M_laws_eqRuleS_L0 fu x y) (fun k i z z' hl hz hz' => ?_) (fun k => by rw [M_laws_eqRuleS_L0, lt_f]; rfl)
  have hi := at_lt hz
  have hm := sz_mem (f := w_Rule) (at_mem hz)
  rw [M_laws_eqRuleS_L0, lt_t hi, cond_true, ck_t (inR_t hi), ck_t (inR_t (at_lt hz')), ck_t (i64B_n (by omega)), gtD_get hz, gtD_get hz', eq_Rule (by omega) hf, cl_true, succ_i]
theorem eq_RuleSet {fu : Nat} {x y : (List ((List ((Int) × (Int) × (Bool)))))} (hw : w_RuleSet x ≤ 1048576) (hf : 1048577 ≤ fu) : M_laws_eqRuleSet fu x y = some (x == y) := by
  obtain ⟨x0, hx0⟩ : ∃ z, z = x := ⟨_, rfl⟩
  obtain ⟨y0, hy0⟩ : ∃ z, z = y := ⟨_, rfl⟩
  subst hx0 hy0
  unfold w_RuleSet at hw
  unfold M_laws_eqRuleSet
  rw [eq_RuleS (by omega) hf, cl_true]
  try simp only [bne]
  cases h0 : (x0 == y0) <;> rfl
def w_IntS (x : List (Int)) : Nat := wL (fun _ => 0) x
theorem eq_IntS {fu : Nat} {x y : List (Int)} (hw : w_IntS x ≤ 1048576) (hf : 1048577 ≤ fu) : M_laws_eqIntS fu x y = some (x == y) := by
  have hw' := hw
  unfold w_IntS wL at hw'
  unfold M_laws_eqIntS
  refine eq_list (by omega) (L := M_laws_eqIntS_L0 fu x y) (fun k i z z' hl hz hz' => ?_) (fun k => by rw [M_laws_eqIntS_L0, lt_f]; rfl)
  have hi := at_lt hz
  rw [M_laws_eqIntS_L0, lt_t hi, cond_true, ck_t (inR_t hi), ck_t (inR_t (at_lt hz')), ck_t (i64B_n (by omega)), gtD_get hz, gtD_get hz', succ_i]
  rfl
def fe_TestS (x : (Int) × (Int) × (Bool)) (k : Int) : (Int) × (Int) × (Bool) := (k, k + 1, ((k + 1 + 1).tmod 3 == 0))
def ce_TestS (x : (Int) × (Int) × (Bool)) : Int := 1 + 1 + 1
theorem ce0_TestS (x : (Int) × (Int) × (Bool)) : 0 ≤ ce_TestS x := by
  unfold ce_TestS
  omega
def f_TestS (x : List ((Int) × (Int) × (Bool))) (k : Int) : List ((Int) × (Int) × (Bool)) := mkW fe_TestS ce_TestS x k
def c_TestS (x : List ((Int) × (Int) × (Bool))) : Int := cW ce_TestS x
theorem c0_TestS (x : List ((Int) × (Int) × (Bool))) : 0 ≤ c_TestS x := cW_nonneg ce0_TestS x
theorem cw_TestS (x : List ((Int) × (Int) × (Bool))) : c_TestS x ≤ 8 * (w_TestS x : Int) := by
  unfold c_TestS w_TestS
  refine cw_list (fun x => ?_) x
  unfold ce_TestS w_Test
  omega
def fe_RuleS (x : (List ((Int) × (Int) × (Bool)))) (k : Int) : (List ((Int) × (Int) × (Bool))) := f_TestS x (k)
def ce_RuleS (x : (List ((Int) × (Int) × (Bool)))) : Int := c_TestS x
theorem ce0_RuleS (x : (List ((Int) × (Int) × (Bool)))) : 0 ≤ ce_RuleS x := by
  unfold ce_RuleS
  have := c0_TestS (x)
  omega
def f_RuleS (x : List ((List ((Int) × (Int) × (Bool))))) (k : Int) : List ((List ((Int) × (Int) × (Bool)))) := mkW fe_RuleS ce_RuleS x k
def c_RuleS (x : List ((List ((Int) × (Int) × (Bool))))) : Int := cW ce_RuleS x
theorem c0_RuleS (x : List ((List ((Int) × (Int) × (Bool))))) : 0 ≤ c_RuleS x := cW_nonneg ce0_RuleS x
theorem cw_RuleS (x : List ((List ((Int) × (Int) × (Bool))))) : c_RuleS x ≤ 8 * (w_RuleS x : Int) := by
  unfold c_RuleS w_RuleS
  refine cw_list (fun x => ?_) x
  unfold ce_RuleS w_Rule
  have := cw_TestS (x)
  omega
def f_RuleSet (x : (List ((List ((Int) × (Int) × (Bool)))))) (k : Int) : (List ((List ((Int) × (Int) × (Bool))))) := f_RuleS x (k)
def c_RuleSet (x : (List ((List ((Int) × (Int) × (Bool)))))) : Int := c_RuleS x
theorem cw_RuleSet (x : (List ((List ((Int) × (Int) × (Bool)))))) : c_RuleSet x ≤ 8 * (w_RuleSet x : Int) := by
  unfold c_RuleSet w_RuleSet
  have := cw_RuleS (x)
  omega
theorem c0_RuleSet (x : (List ((List ((Int) × (Int) × (Bool)))))) : 0 ≤ c_RuleSet x := by
  unfold c_RuleSet
  have := c0_RuleS (x)
  omega
theorem mark_TestS {fu : Nat} {x : List ((Int) × (Int) × (Bool))} {k : Int} (hw : w_TestS x ≤ 1048576) (hk : 0 < k) (h1 : k + c_TestS x ≤ 4294967296) (hf : 1048577 ≤ fu) : M_laws_markTestS fu x k = some (k + c_TestS x, f_TestS x k) := by
  have hw' := hw
  unfold w_TestS wL at hw'
  unfold M_laws_markTestS
  have hb : ∀ z ∈ x, w_Test z ≤ 1048576 := fun z hz => Nat.le_trans (sz_mem (f := w_Test) hz) (by omega)
  refine mark_list (f := fe_TestS) (c := ce_TestS) (Bd := (fun z : (Int) × (Int) × (Bool) => w_Test z ≤ 1048576)) (lim := 4294967296) (L := M_laws_markTestS_L0 fu) ce0_TestS (by omega) hk h1 hb (fun k y i ys z hi hl hz hy hyl hbz => ?_) (fun k y ys hl => by rw [M_laws_markTestS_L0, hl, lt_f]; rfl)
  have hil : i < ys.length := by omega
  unfold ce_TestS at hyl
  rw [M_laws_markTestS_L0, lt_t hil, cond_true]
  have b0 : i64B (y + 1) = true := i64B_t (by omega) (by omega)
  have b1 : i64B (y + 1 + 1) = true := i64B_t (by omega) (by omega)
  have b2 : i64B (y + 1 + 1 + 1) = true := i64B_t (by omega) (by omega)
  have b : i64B ((i : Int) + 1) = true := i64B_n (by omega)
  have b' : i64B ((i + 1 : Nat) : Int) = true := b
  simp only [List.length_set, set_nat, List.set_set, inR_t hil, ck_tt, cl_true, succ_i, gtD_set hil, gtD_get hz, b0, b1, b2, b, b', cond_true, cond_false, Bool.not_true, beq_self_eq_true, bne_self_eq_false']
  try simp only [fe_TestS, ce_TestS, Int.add_assoc]
  try rfl
theorem mark_RuleS {fu : Nat} {x : List ((List ((Int) × (Int) × (Bool))))} {k : Int} (hw : w_RuleS x ≤ 1048576) (hk : 0 < k) (h1 : k + c_RuleS x ≤ 4294967296) (hf : 1048577 ≤ fu) : M_laws_markRuleS fu x k = some (k + c_RuleS x, f_RuleS x k) := by
  have hw' := hw
  unfold w_RuleS wL at hw'
  unfold M_laws_markRuleS
  have hb : ∀ z ∈ x, w_Rule z ≤ 1048576 := fun z hz => Nat.le_trans (sz_mem (f := w_Rule) hz) (by omega)
  refine mark_list (f := fe_RuleS) (c := ce_RuleS) (Bd := (fun z : (List ((Int) × (Int) × (Bool))) => w_Rule z ≤ 1048576)) (lim := 4294967296) (L := M_laws_markRuleS_L0 fu) ce0_RuleS (by omega) hk h1 hb (fun k y i ys z hi hl hz hy hyl hbz => ?_) (fun k y ys hl => by rw [M_laws_markRuleS_L0, hl, lt_f]; rfl)
  have hil : i < ys.length := by omega
  unfold ce_RuleS at hyl
  have hc0 := c0_TestS (z)
  have hbz' : w_Rule z ≤ 1048576 := hbz
  unfold w_Rule at hbz'
  rw [M_laws_markRuleS_L0, lt_t hil, cond_true]
  have m0 := mark_TestS (x := z) (k := y) (by omega) (by omega) (by omega) hf
  have b : i64B ((i : Int) + 1) = true := i64B_n (by omega)
  have b' : i64B ((i + 1 : Nat) : Int) = true := b
  simp only [List.length_set, set_nat, List.set_set, inR_t hil, ck_tt, cl_true, succ_i, gtD_set hil, gtD_get hz, m0, b, b', cond_true, cond_false, Bool.not_true, beq_self_eq_true, bne_self_eq_false']
  try simp only [fe_RuleS, ce_RuleS, Int.add_assoc]
  try rfl
theorem mark_RuleSet {fu : Nat} {x : (List ((List ((Int) × (Int) × (Bool)))))} {k : Int} (hw : w_RuleSet x ≤ 1048576) (hk : 0 < k) (h1 : k + c_RuleSet x ≤ 4294967296) (hf : 1048577 ≤ fu) : M_laws_markRuleSet fu x k = some (k + c_RuleSet x, f_RuleSet x k) := by
  unfold w_RuleSet at hw
  unfold c_RuleSet at h1 ⊢
  unfold M_laws_markRuleSet
  have c0 := c0_RuleS (x)
  rw [mark_RuleS (by omega) (by omega) (by omega) hf, cl_true]
  unfold f_RuleSet
  rfl
def fe_IntS (x : Int) (k : Int) : Int := k
def ce_IntS (x : Int) : Int := 1
theorem ce0_IntS (x : Int) : 0 ≤ ce_IntS x := by
  unfold ce_IntS
  omega
def f_IntS (x : List (Int)) (k : Int) : List (Int) := mkW fe_IntS ce_IntS x k
def c_IntS (x : List (Int)) : Int := cW ce_IntS x
theorem c0_IntS (x : List (Int)) : 0 ≤ c_IntS x := cW_nonneg ce0_IntS x
theorem cw_IntS (x : List (Int)) : c_IntS x ≤ 8 * (w_IntS x : Int) := by
  unfold c_IntS w_IntS
  refine cw_list (fun x => ?_) x
  unfold ce_IntS
  omega
theorem mark_IntS {fu : Nat} {x : List (Int)} {k : Int} (hw : w_IntS x ≤ 1048576) (hk : 0 < k) (h1 : k + c_IntS x ≤ 4294967296) (hf : 1048577 ≤ fu) : M_laws_markIntS fu x k = some (k + c_IntS x, f_IntS x k) := by
  have hw' := hw
  unfold w_IntS wL at hw'
  unfold M_laws_markIntS
  have hb : ∀ z ∈ x, (fun _ => 0) z ≤ 1048576 := fun z hz => Nat.le_trans (sz_mem (f := (fun _ => 0)) hz) (by omega)
  refine mark_list (f := fe_IntS) (c := ce_IntS) (Bd := (fun z : Int => (fun _ => 0) z ≤ 1048576)) (lim := 4294967296) (L := M_laws_markIntS_L0 fu) ce0_IntS (by omega) hk h1 hb (fun k y i ys z hi hl hz hy hyl hbz => ?_) (fun k y ys hl => by rw [M_laws_markIntS_L0, hl, lt_f]; rfl)
  have hil : i < ys.length := by omega
  unfold ce_IntS at hyl
  rw [M_laws_markIntS_L0, lt_t hil, cond_true, ck_t (inR_t hil), ck_t (i64B_t (by omega) (by omega)), ck_t (i64B_n (by omega)), set_nat, succ_i]
  rfl
theorem held_IntS {fu : Nat} {x z : List (Int)} {k : Int} (hz : z = f_IntS x k) (hw : w_IntS x ≤ 1048576) (hk : 0 < k) (h1 : k + c_IntS x ≤ 4294967296) (hf : 1048577 ≤ fu) : M_laws_heldIntS fu z k = some (k + c_IntS x) := by
  have hw' := hw
  unfold w_IntS wL at hw'
  unfold M_laws_heldIntS
  have hb : ∀ z ∈ x, (fun _ => 0) z ≤ 1048576 := fun z hz => Nat.le_trans (sz_mem (f := (fun _ => 0)) hz) (by omega)
  have hzl : z.length = x.length := by rw [hz]; exact mkW_length
  refine held_list (f := fe_IntS) (c := ce_IntS) (Bd := (fun z : Int => (fun _ => 0) z ≤ 1048576)) (lim := 4294967296) (L := M_laws_heldIntS_L0 fu z) hz ce0_IntS (by omega) hk h1 hb (fun k y i u hu hy hyl hbz => ?_) (fun k y => by rw [M_laws_heldIntS_L0, lt_f]; rfl)
  have hi := at_lt hu
  unfold ce_IntS at hyl
  rw [M_laws_heldIntS_L0, lt_t hi, cond_true, ck_t (inR_t hi), gtD_get hu, show (fe_IntS u y != y) = false from bne_self_eq_false' _, cond_false, ck_t (i64B_t (by omega) (by omega)), ck_t (i64B_n (by omega)), succ_i]
  rfl
theorem law_MonotoneViolation {fu : Nat} {a0 : (List ((List ((Int) × (Int) × (Bool)))))} (hf : 1048577 ≤ fu) (h0 : (qS (qS (qP qI (qP qI qT)))) a0)
    (hs : w_RuleSet a0 ≤ 1048576 → ∃ r : (List (Int)) × (List (Int)) × (Bool), M_spec_MonotoneViolation fu a0 = some r ∧ M_impl_MonotoneViolation fu a0 = some r ∧ w_IntS r.1 ≤ 1048576 ∧ w_IntS r.2.1 ≤ 1048576) : M_laws_FnExactMonotoneViolation fu a0 = some true := by
  unfold M_laws_FnExactMonotoneViolation
  rw [sz_RuleSet h0 (by omega) (by omega) hf, cl_true]
  by_cases g0 : ¬ (w_RuleSet a0 : Int) ≤ 1048576
  · rw [szR_ge g0, cond_true]
  replace g0 := Classical.not_not.1 g0
  rw [szR_lt g0, cond_false]
  obtain ⟨r, e1, e2, v0, v1⟩ := hs (by omega)
  have t0 : M_laws_toRuleSet fu a0 = some a0 := to_RuleSet (by omega) hf
  have q0 : M_laws_eqRuleSet fu a0 a0 = some (a0 == a0) := eq_RuleSet (by omega) hf
  have p0 : M_laws_eqIntS fu r.1 r.1 = some (r.1 == r.1) := eq_IntS (by omega) hf
  have p1 : M_laws_eqIntS fu r.2.1 r.2.1 = some (r.2.1 == r.2.1) := eq_IntS (by omega) hf
  have c0 := c0_RuleSet a0
  have d0 := cw_RuleSet a0
  have m0 : M_laws_markRuleSet fu a0 (1) = some (1 + c_RuleSet a0, f_RuleSet a0 (1)) := mark_RuleSet (by omega) (by omega) (by omega) hf
  have k0 : decide (1 + c_RuleSet a0 < 0) = false := decide_eq_false (by omega)
  have cr0 := c0_IntS r.1
  have dr0 := cw_IntS r.1
  have cr1 := c0_IntS r.2.1
  have dr1 := cw_IntS r.2.1
  have mr0 : M_laws_markIntS fu r.1 (1) = some (1 + c_IntS r.1, f_IntS r.1 (1)) := mark_IntS (by omega) (by omega) (by omega) hf
  have hr0 : M_laws_heldIntS fu (f_IntS r.1 (1)) (1) = some (1 + c_IntS r.1) := held_IntS rfl (by omega) (by omega) (by omega) hf
  have kr0 : decide (1 + c_IntS r.1 < 0) = false := decide_eq_false (by omega)
  have mr1 : M_laws_markIntS fu r.2.1 (1 + c_IntS r.1) = some (1 + c_IntS r.1 + c_IntS r.2.1, f_IntS r.2.1 (1 + c_IntS r.1)) := mark_IntS (by omega) (by omega) (by omega) hf
  have hr1 : M_laws_heldIntS fu (f_IntS r.2.1 (1 + c_IntS r.1)) (1 + c_IntS r.1) = some (1 + c_IntS r.1 + c_IntS r.2.1) := held_IntS rfl (by omega) (by omega) (by omega) hf
  have kr1 : decide (1 + c_IntS r.1 + c_IntS r.2.1 < 0) = false := decide_eq_false (by omega)
  simp only [e1, e2, cl_true, bd_eq, beq_self_eq_true, bne_self_eq_false', Bool.not_true, Bool.not_false, cond_false, cond_true, Bool.true_and, Bool.and_true, Bool.false_or, Bool.or_false, Bool.true_or, Bool.false_and, t0, q0, p0, p1, m0, k0, mr0, hr0, kr0, mr1, hr1, kr1, show (false == false) = true from rfl, show (true == false) = false from rfl, show (false == true) = false from rfl]
end Go.Proofs.Ytmkgocdgkdglnaa
