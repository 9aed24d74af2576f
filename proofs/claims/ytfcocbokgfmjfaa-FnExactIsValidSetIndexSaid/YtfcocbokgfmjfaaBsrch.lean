/- Plain: what the laws IsValidSetIndex, SearchSets ask. No statement of the seat is proved here. -/
import Derived.Test.YtfcocbokgfmjfaaBsic
namespace Go.Proofs.Ytfcocbokgfmjfaa
open Go.RowKit
set_option linter.unusedVariables false
set_option linter.unusedSimpArgs false

def srchL (x : TIdx) (q : List (List UInt8)) : List Int := bif idxB x then (x.2.2.filter fun s => meetB s.2 q x.1).map fun s => s.1 else []
theorem implSearch_t {fu : Nat} {x : TIdx} {q : List (List UInt8)} (hf : 1048577 ≤ fu) (hx : IdxOK x) (hq : q.length ≤ 1048576) (heq : ∀ t ∈ q, t.length ≤ 1048576) : M_impl_SearchSets fu x q = some (srchL x q) := by
  unfold M_impl_SearchSets srchL
  rw [implIdx_t hf hx, cl_true]
  cases hv : idxB x
  · rfl
  · obtain ⟨hx1, hx2, hx3⟩ := hx
    have h := loop_fold (xs := x.2.2) (g := fun (acc : List Int) s => bif meetB s.2 q x.1 then acc ++ [s.1] else acc) (Inv := fun i acc => acc.length ≤ i) (L := M_impl_SearchSets_L0 fu x q) (fun k i acc s hs hacc => by
      have hi := at_lt hs
      have hm := implMeet_t (fu := fu) (t := x.1) hf (hx3 s (at_mem hs)).1 (hx3 s (at_mem hs)).2 hq heq
      rw [M_impl_SearchSets_L0, lt_t hi, cond_true]
      simp only [inR_t hi, gtD_get hs, ck_tt, hm, cl_true, List.length_singleton, lenOK_t (show acc.length + 1 ≤ 4294967296 by omega), i64B_c (show i ≤ 4294967296 by omega), succ_i]
      cases meetB s.2 q x.1 <;> rfl) (fun i acc s hs hacc => by
      show (bif meetB s.2 q x.1 then acc ++ [s.1] else acc).length ≤ i + 1
      cases meetB s.2 q x.1
      · exact Nat.le_succ_of_le hacc
      · rw [cond_true, List.length_append]; exact Nat.succ_le_succ hacc) (fun k acc hacc => by rw [M_impl_SearchSets_L0, lt_f]; rfl) (a := []) (Nat.zero_le _) (show x.2.2.length < fu by omega)
    rw [Bool.not_true, cond_false, h.1, cl_true, foldl_app]
    rfl
theorem specSearch_t {fu : Nat} {x : TIdx} {q : List (List UInt8)} (hf : 1048577 ≤ fu) (hx : IdxOK x) (hq : q.length ≤ 1048576) (heq : ∀ t ∈ q, t.length ≤ 1048576) : M_spec_SearchSets fu x q = some (srchL x q) := by
  unfold M_spec_SearchSets srchL
  have hv' := specIdx_t (fu := fu) hf hx
  cases hv : idxB x
  · obtain ⟨k, rfl⟩ : ∃ k, fu = k + 1 := ⟨fu - 1, by omega⟩
    rw [M_spec_SearchSets_L0, hv', hv]
    simp only [cl_if, bd_eq]
    cases decide ((0 : Int) < (x.2.2.length : Int)) <;> rfl
  · obtain ⟨hx1, hx2, hx3⟩ := hx
    have h := loop_fold (xs := x.2.2) (g := fun (acc : List Int) s => bif meetB s.2 q x.1 then acc ++ [s.1] else acc) (Inv := fun i acc => acc.length ≤ i) (L := M_spec_SearchSets_L0 fu x q) (fun k i acc s hs hacc => by
      have hi := at_lt hs
      have hm := specMeet_t (fu := fu) (t := x.1) hf (hx3 s (at_mem hs)).1 (hx3 s (at_mem hs)).2 hq heq
      rw [M_spec_SearchSets_L0, lt_t hi, hv', hv]
      simp only [inR_t hi, gtD_get hs, ck_tt, hm, cl_true, List.length_singleton, lenOK_t (show acc.length + 1 ≤ 4294967296 by omega), i64B_c (show i ≤ 4294967296 by omega), succ_i]
      simp only [cl_if, bd_eq]
      cases meetB s.2 q x.1 <;> rfl) (fun i acc s hs hacc => by
      show (bif meetB s.2 q x.1 then acc ++ [s.1] else acc).length ≤ i + 1
      cases meetB s.2 q x.1
      · exact Nat.le_succ_of_le hacc
      · rw [cond_true, List.length_append]; exact Nat.succ_le_succ hacc) (fun k acc hacc => by rw [M_spec_SearchSets_L0, lt_f, hv', hv]; rfl) (a := []) (Nat.zero_le _) (show x.2.2.length < fu by omega)
    rw [h.1, cl_true, foldl_app]
    rfl
theorem hs_IsValidSetIndex {a0 : TIdx} (h0 : (qP qI (qP (qS (qP qB qI)) (qS (qP qI (qS qB))))) a0) (hw : w_SetIndex a0 ≤ 1048576) : ∃ r : Bool, M_spec_IsValidSetIndex 1048577 a0 = some r ∧ M_impl_IsValidSetIndex 1048577 a0 = some r :=
  ⟨_, specIdx_t (Nat.le_refl _) (idx_ok hw), implIdx_t (Nat.le_refl _) (idx_ok hw)⟩
theorem hs_SearchSets {a0 : TIdx} {a1 : List (List UInt8)} (h0 : (qP qI (qP (qS (qP qB qI)) (qS (qP qI (qS qB))))) a0) (h1 : (qS qB) a1) (hw : w_SetIndex a0 + w_StringS a1 ≤ 1048576) : ∃ r : List Int, M_spec_SearchSets 1048577 a0 a1 = some r ∧ M_impl_SearchSets 1048577 a0 a1 = some r ∧ w_IntS r ≤ 1048576 := by
  have hx := idx_ok (x := a0) (by omega)
  have k1 := w_len (xs := a1) (f := fun s => s.length) (by unfold w_StringS at hw; omega)
  refine ⟨_, specSearch_t (Nat.le_refl _) hx k1.1 k1.2, implSearch_t (Nat.le_refl _) hx k1.1 k1.2, ?_⟩
  unfold w_IntS
  rw [wL_zero fun _ => rfl]
  unfold srchL
  cases idxB a0
  · exact Nat.zero_le _
  · rw [cond_true, List.length_map]
    exact Nat.le_trans (List.length_filter_le _ _) hx.2.1
end Go.Proofs.Ytfcocbokgfmjfaa

