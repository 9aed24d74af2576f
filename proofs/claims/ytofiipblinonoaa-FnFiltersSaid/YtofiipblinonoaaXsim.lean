/- Plain: what the law SimilarStrings asks. No statement of the seat is proved here. -/
import Derived.Test.YtofiipblinonoaaXlev
import Derived.Test.YtofiipblinonoaaXh
namespace Go.Proofs.Ytofiipblinonoaa
open Go.RowKit
set_option linter.unusedVariables false
set_option linter.unusedSimpArgs false

def ewB (d l : Int) : Bool := decide (0 ≤ d) && decide (d ≤ l)
theorem implWithin_t {fu : Nat} {a b : List UInt8} {l : Int} (hf : 1048577 ≤ fu) : M_impl_EditWithin fu a b l = some (bif ewB (editD a b) l then editD a b else -1) := by
  unfold M_impl_EditWithin ewB
  rw [implDist_t hf, cl_true]
  have h := editD_ge a b
  by_cases h1 : editD a b ≤ l
  · rw [decide_eq_true h1, cond_true, Bool.and_true]
    by_cases h2 : 0 ≤ editD a b
    · rw [decide_eq_true h2]; rfl
    · rw [decide_eq_false h2, cond_false]
      congr 1
      omega
  · rw [decide_eq_false h1, Bool.and_false]; rfl
theorem specWithin_t {fu : Nat} {a b : List UInt8} {l : Int} (hf : 1048577 ≤ fu) : M_spec_EditWithin fu a b l = some (bif ewB (editD a b) l then editD a b else -1) := by
  unfold M_spec_EditWithin ewB
  rw [specDist_t hf, cl_true, bd_eq]
  rw [show decide (editD a b < 0) = !decide (0 ≤ editD a b) from dec_not (by omega), show decide (l < editD a b) = !decide (editD a b ≤ l) from dec_not (by omega)]
  cases decide (0 ≤ editD a b) <;> cases decide (editD a b ≤ l) <;> rfl
theorem ewB_ge (d l : Int) : decide (0 ≤ (bif ewB d l then d else -1)) = ewB d l := by
  cases h : ewB d l
  · rfl
  · unfold ewB at h
    rw [Bool.and_eq_true, decide_eq_true_eq] at h
    rw [cond_true, decide_eq_true h.1]
def simG (s : List UInt8) (l : Int) (acc : List Int) (x : List UInt8 × Nat) : List Int := bif ewB (editD x.1 s) l then acc ++ [(x.2 : Int)] else acc
def simL (xs : List (List UInt8)) (s : List UInt8) (l : Int) : List Int := xs.zipIdx.foldl (simG s l) []
theorem simG_len (s : List UInt8) (l : Int) (acc : List Int) (x : List UInt8 × Nat) : (simG s l acc x).length ≤ acc.length + 1 := by
  unfold simG
  cases ewB (editD x.1 s) l
  · exact Nat.le_succ _
  · rw [cond_true, List.length_append]; exact Nat.le_refl _
theorem simL_len (s : List UInt8) (l : Int) : ∀ (xs : List (List UInt8 × Nat)) (acc : List Int), (xs.foldl (simG s l) acc).length ≤ acc.length + xs.length
  | [], acc => Nat.le_refl _
  | x :: xs, acc => by
    have h1 := simG_len s l acc x
    have h2 := simL_len s l xs (simG s l acc x)
    rw [List.foldl_cons, List.length_cons]
    omega
theorem simL_neg (s : List UInt8) (l : Int) (hl : l < 0) : ∀ (xs : List (List UInt8 × Nat)) (acc : List Int), xs.foldl (simG s l) acc = acc
  | [], acc => rfl
  | x :: xs, acc => by
    have : simG s l acc x = acc := by
      unfold simG ewB
      rw [show (decide (0 ≤ editD x.1 s) && decide (editD x.1 s ≤ l)) = false from by
        rw [Bool.and_eq_false_iff, decide_eq_false_iff_not, decide_eq_false_iff_not]; omega]
      rfl
    rw [List.foldl_cons, this]
    exact simL_neg s l hl xs acc
theorem zip_at {α : Type} {xs : List α} {i : Nat} {x : α × Nat} (h : xs.zipIdx[i]? = some x) : xs[i]? = some x.1 ∧ x.2 = i := by
  rw [List.getElem?_zipIdx] at h
  cases hx : xs[i]? with
  | none => rw [hx] at h; cases h
  | some y =>
    rw [hx] at h
    injection h with h
    subst h
    exact ⟨rfl, by simp⟩
theorem implSim_t {fu : Nat} {xs : List (List UInt8)} {s : List UInt8} {l : Int} (hf : 1048577 ≤ fu) (hx : xs.length ≤ 1048576) : M_impl_SimilarStrings fu xs s l = some (simL xs s l) := by
  unfold M_impl_SimilarStrings simL
  have h := loop_fold (xs := xs.zipIdx) (g := simG s l) (Inv := fun i acc => acc.length ≤ i) (L := M_impl_SimilarStrings_L0 fu xs s l) (fun k i acc x hx hacc => by
    obtain ⟨h1, h2⟩ := zip_at hx
    have hi := at_lt h1
    rw [M_impl_SimilarStrings_L0, lt_t hi, cond_true, ck_t (inR_t hi), gtD_get h1, implWithin_t hf, cl_true, ewB_ge, List.length_singleton, ck_t (lenOK_t (by omega)), ck_t (i64B_n (by omega)), succ_i]
    unfold simG
    rw [h2]
    cases ewB (editD x.1 s) l
    · rw [cond_false, cond_false, ck_t (i64B_c (by omega))]
    · rw [cond_true, cond_true]) (fun i acc x hx hacc => Nat.le_trans (simG_len s l acc x) (Nat.succ_le_succ hacc)) (fun k acc hacc => by rw [List.length_zipIdx, M_impl_SimilarStrings_L0, lt_f]; rfl) (a := []) (Nat.zero_le _) (show xs.zipIdx.length < fu by rw [List.length_zipIdx]; omega)
  rw [h.1, cl_true]
theorem specSim_t {fu : Nat} {xs : List (List UInt8)} {s : List UInt8} {l : Int} (hf : 1048577 ≤ fu) (hx : xs.length ≤ 1048576) : M_spec_SimilarStrings fu xs s l = some (simL xs s l) := by
  unfold M_spec_SimilarStrings simL
  by_cases hl : 0 ≤ l
  · have h := loop_fold (xs := xs.zipIdx) (g := simG s l) (Inv := fun i acc => acc.length ≤ i) (L := M_spec_SimilarStrings_L0 fu xs s l) (fun k i acc x hx hacc => by
      obtain ⟨h1, h2⟩ := zip_at hx
      have hi := at_lt h1
      rw [M_spec_SimilarStrings_L0, lt_t hi, decide_eq_true hl, Bool.and_self, bd_eq, cond_true, ck_t (inR_t hi), gtD_get h1, specWithin_t hf, cl_true, ewB_ge, List.length_singleton, ck_t (lenOK_t (by omega)), ck_t (i64B_n (by omega)), succ_i]
      unfold simG
      rw [h2]
      cases ewB (editD x.1 s) l
      · rw [cond_false, cond_false, ck_t (i64B_c (by omega))]
      · rw [cond_true, cond_true]) (fun i acc x hx hacc => Nat.le_trans (simG_len s l acc x) (Nat.succ_le_succ hacc)) (fun k acc hacc => by rw [List.length_zipIdx, M_spec_SimilarStrings_L0, lt_f, Bool.false_and]; rfl) (a := []) (Nat.zero_le _) (show xs.zipIdx.length < fu by rw [List.length_zipIdx]; omega)
    rw [h.1, cl_true]
  · obtain ⟨k, rfl⟩ : ∃ k, fu = k + 1 := ⟨fu - 1, by omega⟩
    rw [M_spec_SimilarStrings_L0, decide_eq_false hl, Bool.and_false, bd_eq, cond_false, cl_true, simL_neg s l (by omega)]
end Go.Proofs.Ytofiipblinonoaa

