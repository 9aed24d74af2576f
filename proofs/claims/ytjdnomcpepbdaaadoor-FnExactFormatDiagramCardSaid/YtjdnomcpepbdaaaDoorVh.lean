/- Printed by genh.py: the laws' own helpers computed. No program in sight. No statement of the seat is proved here. -/
import Derived.Test.YtjdnomcpepbdaaaDoorVz
import Derived.Test.YtjdnomcpepbdaaaDoorPc
import Derived.Test.YtjdnomcpepbdaaaDoorBr
namespace Go.Proofs.YtjdnomcpepbdaaaDoor
open Go.RowKit
set_option linter.unusedVariables false
set_option linter.unusedSimpArgs false

def w_DiagramNode (x : (Int) × (Int) × (Int) × (Int)) : Nat := 0
def w_DiagramNodeS (x : List ((Int) × (Int) × (Int) × (Int))) : Nat := wL w_DiagramNode x
def w_Diagram (x : (Int) × (List ((Int) × (Int) × (Int) × (Int)))) : Nat := w_DiagramNodeS x.2
theorem wL_flat {α : Type} {f : α → Nat} (h : ∀ x, f x = 0) (xs : List α) : wL f xs = xs.length := by
  unfold wL
  have : (xs.map f).sum = 0 := by
    induction xs with
    | nil => rfl
    | cons x xs ih => simp [h, ih]
  omega
theorem sz_DiagramNodeS {fu : Nat} {x : List ((Int) × (Int) × (Int) × (Int))} {n : Int} (hb : (qS (qP qI (qP qI (qP qI qI)))) x) (h0 : 0 ≤ n) (h1 : n ≤ 1048576) (hf : 1048577 ≤ fu) : M_laws_szDiagramNodeS fu x n = some (szR n (w_DiagramNodeS x)) := by
  unfold M_laws_szDiagramNodeS w_DiagramNodeS
  rw [wL_flat (f := w_DiagramNode) (fun _ => rfl)]
  have hl := hb.1
  unfold maxLen at hl
  rw [ck_t (i64B_t (by omega) (by omega))]
  unfold szR
  by_cases h : (x.length : Int) ≤ n
  · rw [decide_eq_false (by omega), cond_false, if_pos h]
  · rw [decide_eq_true (by omega), cond_true, if_neg h]
theorem sz_Diagram {fu : Nat} {x : (Int) × (List ((Int) × (Int) × (Int) × (Int)))} {n : Int} (hb : (qP qI (qS (qP qI (qP qI (qP qI qI))))) x) (h0 : 0 ≤ n) (h1 : n ≤ 1048576) (hf : 1048577 ≤ fu) : M_laws_szDiagram fu x n = some (szR n (w_Diagram x)) := by
  unfold M_laws_szDiagram w_Diagram
  rw [sz_DiagramNodeS hb.2 (by omega) (by omega) hf, cl_true]
  by_cases g0 : ¬ (w_DiagramNodeS x.2 : Int) ≤ n
  · rw [szR_ge g0, cond_true]
    unfold szR
    rw [if_neg (by omega)]
  replace g0 := Classical.not_not.1 g0
  rw [szR_lt g0, cond_false, szR_v g0]

theorem to_DiagramNode {fu : Nat} {x : (Int) × (Int) × (Int) × (Int)} (hw : w_DiagramNode x ≤ 1048576) (hf : 1048577 ≤ fu) : M_laws_toDiagramNode fu x = some x := by
  unfold w_DiagramNode at hw
  unfold M_laws_toDiagramNode
  rfl
theorem to_DiagramNodeS {fu : Nat} {x : List ((Int) × (Int) × (Int) × (Int))} (hw : w_DiagramNodeS x ≤ 1048576) (hf : 1048577 ≤ fu) : M_laws_toDiagramNodeS fu x = some x := by
  have hw' := hw
  unfold w_DiagramNodeS wL at hw'
  unfold M_laws_toDiagramNodeS
  refine to_list (by omega) hf (L := M_laws_toDiagramNodeS_L0 fu x) (fun k i ys z hi hl hz => ?_) (fun k ys => by rw [M_laws_toDiagramNodeS_L0, lt_f]; rfl)
  have hm := sz_mem (f := w_DiagramNode) (at_mem hz)
  rw [M_laws_toDiagramNodeS_L0, lt_t hi, cond_true, ck_t (inR_t hi), gtD_get hz, to_DiagramNode (by omega) hf, cl_true, ck_t (inR_t (by omega)), ck_t (i64B_n (by omega)), set_nat, succ_i]
theorem to_Diagram {fu : Nat} {x : (Int) × (List ((Int) × (Int) × (Int) × (Int)))} (hw : w_Diagram x ≤ 1048576) (hf : 1048577 ≤ fu) : M_laws_toDiagram fu x = some x := by
  unfold w_Diagram at hw
  unfold M_laws_toDiagram
  rw [to_DiagramNodeS (by omega) hf, cl_true]
theorem eq_DiagramNode {fu : Nat} {x y : (Int) × (Int) × (Int) × (Int)} (hw : w_DiagramNode x ≤ 1048576) (hf : 1048577 ≤ fu) : M_laws_eqDiagramNode fu x y = some (x == y) := by
  obtain ⟨x0, x1, x2, x3⟩ := x
  obtain ⟨y0, y1, y2, y3⟩ := y
  unfold w_DiagramNode at hw
  try simp only [] at hw
  unfold M_laws_eqDiagramNode
  rw [show (((x0, x1, x2, x3) : (Int) × (Int) × (Int) × (Int)) == (y0, y1, y2, y3)) = ((x0 == y0) && ((x1 == y1) && ((x2 == y2) && (x3 == y3)))) from rfl]
  simp only []
  try simp only [bne]
  cases h0 : (x0 == y0) <;> cases h1 : (x1 == y1) <;> cases h2 : (x2 == y2) <;> cases h3 : (x3 == y3) <;> rfl
theorem eq_DiagramNodeS {fu : Nat} {x y : List ((Int) × (Int) × (Int) × (Int))} (hw : w_DiagramNodeS x ≤ 1048576) (hf : 1048577 ≤ fu) : M_laws_eqDiagramNodeS fu x y = some (x == y) := by
  have hw' := hw
  unfold w_DiagramNodeS wL at hw'
  unfold M_laws_eqDiagramNodeS
  refine eq_list (by omega) (L := M_laws_eqDiagramNodeS_L0 fu x y) (fun k i z z' hl hz hz' => ?_) (fun k => by rw [M_laws_eqDiagramNodeS_L0, lt_f]; rfl)
  have hi := at_lt hz
  have hm := sz_mem (f := w_DiagramNode) (at_mem hz)
  rw [M_laws_eqDiagramNodeS_L0, lt_t hi, cond_true, ck_t (inR_t hi), ck_t (inR_t (at_lt hz')), ck_t (i64B_n (by omega)), gtD_get hz, gtD_get hz', eq_DiagramNode (by omega) hf, cl_true, succ_i]
theorem eq_Diagram {fu : Nat} {x y : (Int) × (List ((Int) × (Int) × (Int) × (Int)))} (hw : w_Diagram x ≤ 1048576) (hf : 1048577 ≤ fu) : M_laws_eqDiagram fu x y = some (x == y) := by
  obtain ⟨x0, x1⟩ := x
  obtain ⟨y0, y1⟩ := y
  unfold w_Diagram at hw
  try simp only [] at hw
  unfold M_laws_eqDiagram
  rw [show (((x0, x1) : (Int) × (List ((Int) × (Int) × (Int) × (Int)))) == (y0, y1)) = ((x0 == y0) && (x1 == y1)) from rfl]
  simp only []
  rw [eq_DiagramNodeS (by omega) hf, cl_true]
  try simp only [bne]
  cases h0 : (x0 == y0) <;> cases h1 : (x1 == y1) <;> rfl
theorem law_FormatDiagram {fu : Nat} {a0 : (Int) × (List ((Int) × (Int) × (Int) × (Int)))} (hf : 1048577 ≤ fu) (h0 : (qP qI (qS (qP qI (qP qI (qP qI qI))))) a0)
    (hs : w_Diagram a0 ≤ 1048576 → ∃ r : (List UInt8), M_spec_FormatDiagram fu a0 = some r ∧ M_impl_FormatDiagram fu a0 = some r) : M_laws_FnExactFormatDiagram fu a0 = some true := by
  unfold M_laws_FnExactFormatDiagram
  rw [sz_Diagram h0 (by omega) (by omega) hf, cl_true]
  by_cases g0 : ¬ (w_Diagram a0 : Int) ≤ 1048576
  · rw [szR_ge g0, cond_true]
  replace g0 := Classical.not_not.1 g0
  rw [szR_lt g0, cond_false]
  obtain ⟨r, e1, e2⟩ := hs (by omega)
  have t0 : M_laws_toDiagram fu a0 = some a0 := to_Diagram (by omega) hf
  have q0 : M_laws_eqDiagram fu a0 a0 = some (a0 == a0) := eq_Diagram (by omega) hf
  simp only [e1, e2, cl_true, bd_eq, beq_self_eq_true, bne_self_eq_false', Bool.not_true, Bool.not_false, cond_false, cond_true, Bool.true_and, Bool.and_true, Bool.false_or, Bool.or_false, Bool.true_or, Bool.false_and, t0, q0, show (false == false) = true from rfl, show (true == false) = false from rfl, show (false == true) = false from rfl]
end Go.Proofs.YtjdnomcpepbdaaaDoor
