/- Plain: what the law FormatDiagram asks. No statement of the seat is proved here. -/
import Derived.Test.YtjdnomcpepbdaaaDoorVfi
import Derived.Test.YtjdnomcpepbdaaaDoorVvd
import Derived.Test.YtjdnomcpepbdaaaDoorVh
namespace Go.Proofs.YtjdnomcpepbdaaaDoor
open Go.RowKit
set_option linter.unusedVariables false
set_option linter.unusedSimpArgs false

theorem vd_nums {b : Int} {ns : List T_impl_DiagramNode} (h : vdB b ns = true) : ns.length ≤ 200 ∧ (0 ≤ b ∧ b ≤ 201) ∧ ∀ (i : Nat) x, ns[i]? = some x → (0 ≤ x.1 ∧ x.1 ≤ 5) ∧ (1 ≤ x.2.1 ∧ x.2.1 ≤ 1000) ∧ (0 ≤ x.2.2.1 ∧ x.2.2.1 ≤ 201) ∧ (0 ≤ x.2.2.2 ∧ x.2.2.2 ≤ 201) := by
  unfold vdB at h
  rw [Bool.and_eq_true, Bool.and_eq_true, decide_eq_true_eq, inI_iff] at h
  obtain ⟨⟨h1, h2⟩, h3⟩ := h
  refine ⟨by omega, by omega, fun i x hx => ?_⟩
  have hn : findB (badB ns) 0 ns.length = none := by
    cases hq : findB (badB ns) 0 ns.length with
    | none => rfl
    | some j => rw [hq] at h1; simp at h1
  have hi := at_lt hx
  have hb := findB_none' hn i (Nat.zero_le _) (by omega)
  unfold badB chB at hb
  rw [gtD_get hx] at hb
  have e : ∀ {p : Int} {lo hi : Int}, (!inI p lo hi) = false → lo ≤ p ∧ p ≤ hi := fun h => inI_iff.1 (by simpa using h)
  simp only [Bool.or_eq_false_iff, Bool.not_eq_false', Bool.and_eq_true, inI_iff] at hb
  omega
def nodeT (i : Nat) (x : T_impl_DiagramNode) : List UInt8 := [59, 32] ++ Lib.itoa ((i : Int) + 2) ++ [58, 32] ++ gtD featL x.1 ++ [62, 61] ++ Lib.itoa x.2.1 ++ [32] ++ Lib.itoa x.2.2.2 ++ [32] ++ Lib.itoa x.2.2.1
def nodesT (ns : List T_impl_DiagramNode) (acc : List UInt8) : List UInt8 := ns.zipIdx.foldl (fun a x => a ++ nodeT x.2 x.1) acc
theorem zip_at {α : Type} {xs : List α} {i : Nat} {x : α × Nat} (h : xs.zipIdx[i]? = some x) : xs[i]? = some x.1 ∧ x.2 = i := by
  rw [List.getElem?_zipIdx] at h
  cases hx : xs[i]? with
  | none => rw [hx] at h; cases h
  | some y =>
    rw [hx] at h
    injection h with h
    subst h
    exact ⟨rfl, by simp⟩
theorem nodeT_len {i : Nat} {x : T_impl_DiagramNode} (hi : i ≤ 300) (h : (0 ≤ x.1 ∧ x.1 ≤ 5) ∧ (1 ≤ x.2.1 ∧ x.2.1 ≤ 1000) ∧ (0 ≤ x.2.2.1 ∧ x.2.2.1 ≤ 201) ∧ (0 ≤ x.2.2.2 ∧ x.2.2.2 ≤ 201)) : (nodeT i x).length ≤ 200 := by
  have h1 := itoa_le (n := (i : Int) + 2) (by omega) (by omega)
  have h2 := itoa_le (n := x.2.1) (by omega) (by omega)
  have h3 := itoa_le (n := x.2.2.1) (by omega) (by omega)
  have h4 := itoa_le (n := x.2.2.2) (by omega) (by omega)
  have h5 := feat_len x.1
  unfold nodeT
  simp only [List.length_append, List.length_cons, List.length_nil]
  omega
theorem specFD_t {fu : Nat} {b : Int} {ns : List T_impl_DiagramNode} (hf : 1048577 ≤ fu) (hn : ns.length ≤ 1048576) : M_spec_FormatDiagram fu (b, ns) = some (bif vdB b ns then nodesT ns ([114, 111, 111, 116, 32] ++ Lib.itoa b) else []) := by
  unfold M_spec_FormatDiagram
  rw [spec_vd hn hf, cl_true]
  cases hv : vdB b ns
  · rfl
  · obtain ⟨hl, hb, hx⟩ := vd_nums hv
    have hb1 := itoa_le (n := b) (by omega) (by omega)
    have h := loop_fold (xs := ns.zipIdx) (g := fun a x => a ++ nodeT x.2 x.1) (Inv := fun i acc => acc.length ≤ 100 + 200 * i) (L := fun k i acc => M_spec_FormatDiagram_L0 fu (b, ns) k acc i) (fun k i acc x hz hacc => by
      obtain ⟨h1, h2⟩ := zip_at hz
      have hi := at_lt h1
      have hq := hx i _ h1
      have e0 := nodeT_len (i := i) (by omega) hq
      have e1 := itoa_le (n := (i : Int) + 2) (by omega) (by omega)
      have e2 := itoa_le (n := x.1.2.1) (by omega) (by omega)
      have e3 := itoa_le (n := x.1.2.2.1) (by omega) (by omega)
      have e4 := itoa_le (n := x.1.2.2.2) (by omega) (by omega)
      have e5 := feat_len x.1.1
      have hg : gtD ns (i : Int) = x.1 := gtD_get h1
      show M_spec_FormatDiagram_L0 fu (b, ns) (k + 1) acc (i : Int) = M_spec_FormatDiagram_L0 fu (b, ns) k (acc ++ nodeT x.2 x.1) ((i + 1 : Nat) : Int)
      rw [h2]
      rw [M_spec_FormatDiagram_L0]
      dsimp only
      rw [lt_t hi, cond_true, ck_t (inR_t hi), hg, ck_t (lenOK_s (by simp only [List.length_append, List.length_cons, List.length_nil]; omega)), ck_t (i64B_t (by omega) (by omega)), specFI_t hf (by omega) (by omega), cl_true, ck_t (lenOK_s (by simp only [List.length_append, List.length_cons, List.length_nil]; omega)), ck_t (lenOK_s (by simp only [List.length_append, List.length_cons, List.length_nil]; omega)), specName_t (by omega) (by omega), cl_true, ck_t (lenOK_s (by simp only [List.length_append, List.length_cons, List.length_nil]; omega)), ck_t (lenOK_s (by simp only [List.length_append, List.length_cons, List.length_nil]; omega)), specFI_t hf (by omega) (by omega), cl_true,
        ck_t (lenOK_s (by simp only [List.length_append, List.length_cons, List.length_nil]; omega)), ck_t (lenOK_s (by simp only [List.length_append, List.length_cons, List.length_nil]; omega)), specFI_t hf (by omega) (by omega), cl_true, ck_t (lenOK_s (by simp only [List.length_append, List.length_cons, List.length_nil]; omega)), ck_t (lenOK_s (by simp only [List.length_append, List.length_cons, List.length_nil]; omega)), specFI_t hf (by omega) (by omega), cl_true, ck_t (lenOK_s (by simp only [List.length_append, List.length_cons, List.length_nil]; omega)), ck_t (i64B_n (by omega)), succ_i]
      unfold nodeT
      simp only [List.append_assoc]) (fun i acc x hz hacc => by
      obtain ⟨h1, h2⟩ := zip_at hz
      have hi := at_lt h1
      have e0 := nodeT_len (i := i) (by omega) (hx i _ h1)
      show (acc ++ nodeT x.2 x.1).length ≤ _
      rw [h2, List.length_append]
      omega) (fun k acc hacc => by
      show M_spec_FormatDiagram_L0 fu (b, ns) (k + 1) acc _ = _
      rw [List.length_zipIdx, M_spec_FormatDiagram_L0]
      dsimp only
      rw [lt_f]
      rfl) (a := [114, 111, 111, 116, 32] ++ Lib.itoa b) (by simp; omega) (show ns.zipIdx.length < fu by rw [List.length_zipIdx]; omega)
    rw [Bool.not_true, cond_false]
    dsimp only
    rw [specFI_t hf (by omega) (by omega), cl_true, ck_t (lenOK_s (by simp only [List.length_append, List.length_cons, List.length_nil]; omega)), h.1, cl_true]
    rfl
theorem implTT_t {fu : Nat} {t : Int × Int × Bool} (h : 0 ≤ t.1 ∧ t.1 ≤ 5) (h' : 1 ≤ t.2.1 ∧ t.2.1 ≤ 1000) : M_impl_testText fu t = some (gtD featL t.1 ++ (bif t.2.2 then [60] else [62, 61]) ++ Lib.itoa t.2.1) := by
  unfold M_impl_testText
  have e2 := itoa_le (n := t.2.1) (by omega) (by omega)
  have e5 := feat_len t.1
  rw [ck_t (featIn h.1 h.2), ck_t (lenOK_s (by simp only [List.length_append, List.length_cons, List.length_nil]; omega)), implFI_t (by omega) (by omega), cl_true, ck_t (lenOK_s (by simp only [List.length_append, List.length_cons, List.length_nil]; omega)), ck_t (lenOK_s (by simp only [List.length_append, List.length_cons, List.length_nil]; omega)), cl_true, ck_t (featIn h.1 h.2), ck_t (lenOK_s (by simp only [List.length_append, List.length_cons, List.length_nil]; omega))]
  cases t.2.2 <;> rfl
theorem implFD_t {fu : Nat} {b : Int} {ns : List T_impl_DiagramNode} (hf : 1048577 ≤ fu) (hn : ns.length ≤ 1048576) : M_impl_FormatDiagram fu (b, ns) = some (bif vdB b ns then nodesT ns ([114, 111, 111, 116, 32] ++ Lib.itoa b) else []) := by
  unfold M_impl_FormatDiagram
  rw [impl_vd hn hf, cl_true]
  cases hv : vdB b ns
  · rfl
  · obtain ⟨hl, hb, hx⟩ := vd_nums hv
    have hb1 := itoa_le (n := b) (by omega) (by omega)
    have h := loop_fold (xs := ns.zipIdx) (g := fun a x => a ++ nodeT x.2 x.1) (Inv := fun i acc => acc.length ≤ 100 + 200 * i) (L := fun k i acc => M_impl_FormatDiagram_L0 fu (b, ns) k acc i) (fun k i acc x hz hacc => by
      obtain ⟨h1, h2⟩ := zip_at hz
      have hi := at_lt h1
      have hq := hx i _ h1
      have e0 := nodeT_len (i := i) (by omega) hq
      have e1 := itoa_le (n := (i : Int) + 2) (by omega) (by omega)
      have e2 := itoa_le (n := x.1.2.1) (by omega) (by omega)
      have e3 := itoa_le (n := x.1.2.2.1) (by omega) (by omega)
      have e4 := itoa_le (n := x.1.2.2.2) (by omega) (by omega)
      have e5 := feat_len x.1.1
      have hg : gtD ns (i : Int) = x.1 := gtD_get h1
      show M_impl_FormatDiagram_L0 fu (b, ns) (k + 1) acc (i : Int) = M_impl_FormatDiagram_L0 fu (b, ns) k (acc ++ nodeT x.2 x.1) ((i + 1 : Nat) : Int)
      rw [h2]
      rw [M_impl_FormatDiagram_L0]
      dsimp only
      rw [lt_t hi, cond_true, ck_t (inR_t hi), hg, ck_t (i64B_t (by omega) (by omega)), implFI_t (by omega) (by omega), cl_true, ck_t (lenOK_s (by simp only [List.length_append, List.length_cons, List.length_nil]; omega)), ck_t (lenOK_s (by simp only [List.length_append, List.length_cons, List.length_nil]; omega)), implTT_t hq.1 hq.2.1, cl_true]
      dsimp only [cond_false]
      rw [ck_t (lenOK_s (by simp only [List.length_append, List.length_cons, List.length_nil]; omega)), ck_t (lenOK_s (by simp only [List.length_append, List.length_cons, List.length_nil]; omega)), implFI_t (by omega) (by omega), cl_true, ck_t (lenOK_s (by simp only [List.length_append, List.length_cons, List.length_nil]; omega)), ck_t (lenOK_s (by simp only [List.length_append, List.length_cons, List.length_nil]; omega)), implFI_t (by omega) (by omega), cl_true, ck_t (lenOK_s (by simp only [List.length_append, List.length_cons, List.length_nil]; omega)), ck_t (lenOK_s (by simp only [List.length_append, List.length_cons, List.length_nil]; omega)), ck_t (i64B_n (by omega)), succ_i]
      unfold nodeT
      simp only [List.append_assoc, cond_false]) (fun i acc x hz hacc => by
      obtain ⟨h1, h2⟩ := zip_at hz
      have hi := at_lt h1
      have e0 := nodeT_len (i := i) (by omega) (hx i _ h1)
      show (acc ++ nodeT x.2 x.1).length ≤ _
      rw [h2, List.length_append]
      omega) (fun k acc hacc => by
      show M_impl_FormatDiagram_L0 fu (b, ns) (k + 1) acc _ = _
      rw [List.length_zipIdx, M_impl_FormatDiagram_L0]
      dsimp only
      rw [lt_f]
      rfl) (a := [114, 111, 111, 116, 32] ++ Lib.itoa b) (by simp; omega) (show ns.zipIdx.length < fu by rw [List.length_zipIdx]; omega)
    rw [Bool.not_true, cond_false]
    dsimp only
    rw [implFI_t (by omega) (by omega), cl_true, ck_t (lenOK_s (by simp only [List.length_append, List.length_cons, List.length_nil]; omega)), h.1, cl_true]
    rfl
theorem hs_FormatDiagram {a0 : Int × List T_impl_DiagramNode} (h0 : (qP qI (qS (qP qI (qP qI (qP qI qI))))) a0) (hw : w_Diagram a0 ≤ 1048576) : ∃ r : List UInt8, M_spec_FormatDiagram 1048577 a0 = some r ∧ M_impl_FormatDiagram 1048577 a0 = some r := by
  obtain ⟨b, ns⟩ := a0
  have hx : ns.length ≤ 1048576 := by unfold w_Diagram w_DiagramNodeS wL at hw; dsimp only at hw; omega
  exact ⟨_, specFD_t (Nat.le_refl _) hx, implFD_t (Nat.le_refl _) hx⟩
end Go.Proofs.YtjdnomcpepbdaaaDoor

